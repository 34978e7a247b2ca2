/-
  DERIVED. GIVEN WITH THE SEED: THE CARDS: each row of YtmjjjhinedogjaaGreatDoorRows.lean that lists a variable, with what it lists TIED to the program's text (the seventh form; the later family's looks); each row that meets fmt, with fmt's text TOLD by the authors' own Lean function (tested against real Go, not proved from fmt's source: count such statements apart). THE CARD IS WHAT COUNTS. Prove the row's statement (the work); the ties are given (YtmjjjhinedogjaaGreatDoorTie.lean); close each card by the builder's one call (the guide's Derived/Test/ToyasCard.lean, 'card_holds'). Laid BY PROGRAM, IN A SANDBOX (cutbox-door.mjs). By AI agents, Wed Nov 11 2026. No macro, syntax, notation, axiom, sorry.
-/
import Derived.Test.YtmjjjhinedogjaaGreatDoorRows
import GoSem.ClaimSeven
namespace Go.Proofs.YtmjjjhinedogjaaGreatDoor
namespace Rows

/-- THE TIED CARD OF 'polderlaw29.SpoilOne'. -/
def spoilOneCard : Claim7 := { stood := { row := spoilOneRow, standIns := [], harness := (true, "916a9808cc49c4933b7199ea823071cb83962162edbd0ff782520c20fe42bbd3"), looks := false }, kinds := [], alts := [], laidByText := true, laidKinds := [.data, .data], laidTests := true, laidLooks := .later }
def SpoilOneCardSaid : Prop := Claim7.holds Tryz.pinned (.plain (OpenSpec.ofChange spoilOneSpec)) spoilOneCard

/-- THE TIED CARD OF 'polderlaw29.SpoilPuts'. -/
def spoilPutsCard : Claim7 := { stood := { row := spoilPutsRow, standIns := [], harness := (true, "916a9808cc49c4933b7199ea823071cb83962162edbd0ff782520c20fe42bbd3"), looks := false }, kinds := [], alts := [], laidByText := true, laidKinds := [.data, .data], laidTests := true, laidLooks := .later }
def SpoilPutsCardSaid : Prop := Claim7.holds Tryz.pinned (.plain (OpenSpec.ofChange spoilPutsSpec)) spoilPutsCard

/-- THE TIED CARD OF 'polderlaw29.SpoilOrder'. -/
def spoilOrderCard : Claim7 := { stood := { row := spoilOrderRow, standIns := [], harness := (true, "916a9808cc49c4933b7199ea823071cb83962162edbd0ff782520c20fe42bbd3"), looks := false }, kinds := [], alts := [], laidByText := true, laidKinds := [.data, .data], laidTests := true, laidLooks := .later }
def SpoilOrderCardSaid : Prop := Claim7.holds Tryz.pinned (.plain (OpenSpec.ofChange spoilOrderSpec)) spoilOrderCard

/-- THE SECOND FORM's CARD OF 'polderlaw29.SpoilOne'. -/
def spoilOneUptoCard : Claim7 := { stood := { row := spoilOneUptoRow, standIns := [], harness := (true, "916a9808cc49c4933b7199ea823071cb83962162edbd0ff782520c20fe42bbd3"), looks := false }, kinds := [], alts := [], laidByText := true, laidKinds := [.data, .data], laidTests := true, laidLooks := .later }
def SpoilOneUptoCardSaid : Prop := Claim7.holds Tryz.pinned (.plain (OpenSpec.upto spoilOneSpec)) spoilOneUptoCard

/-- THE SECOND FORM's CARD OF 'polderlaw29.SpoilPuts'. -/
def spoilPutsUptoCard : Claim7 := { stood := { row := spoilPutsUptoRow, standIns := [], harness := (true, "916a9808cc49c4933b7199ea823071cb83962162edbd0ff782520c20fe42bbd3"), looks := false }, kinds := [], alts := [], laidByText := true, laidKinds := [.data, .data], laidTests := true, laidLooks := .later }
def SpoilPutsUptoCardSaid : Prop := Claim7.holds Tryz.pinned (.plain (OpenSpec.upto spoilPutsSpec)) spoilPutsUptoCard

/-- THE SECOND FORM's CARD OF 'polderlaw29.SpoilOrder'. -/
def spoilOrderUptoCard : Claim7 := { stood := { row := spoilOrderUptoRow, standIns := [], harness := (true, "916a9808cc49c4933b7199ea823071cb83962162edbd0ff782520c20fe42bbd3"), looks := false }, kinds := [], alts := [], laidByText := true, laidKinds := [.data, .data], laidTests := true, laidLooks := .later }
def SpoilOrderUptoCardSaid : Prop := Claim7.holds Tryz.pinned (.plain (OpenSpec.upto spoilOrderSpec)) spoilOrderUptoCard
end Rows
end Go.Proofs.YtmjjjhinedogjaaGreatDoor
