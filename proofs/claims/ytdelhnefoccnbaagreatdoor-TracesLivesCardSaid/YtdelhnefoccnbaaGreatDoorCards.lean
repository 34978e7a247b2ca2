/-
  DERIVED. GIVEN WITH THE SEED: THE CARDS: each row of YtdelhnefoccnbaaGreatDoorRows.lean that lists a variable, with what it lists TIED to the program's text (the seventh form; the later family's looks); each row that meets fmt, with fmt's text TOLD by the authors' own Lean function (tested against real Go, not proved from fmt's source: count such statements apart). THE CARD IS WHAT COUNTS. Prove the row's statement (the work); the ties are given (YtdelhnefoccnbaaGreatDoorTie.lean); close each card by the builder's one call (the guide's Derived/Test/ToyasCard.lean, 'card_holds'). Laid BY PROGRAM, IN A SANDBOX (cutbox-door.mjs). By AI agents, Wed Nov 11 2026. No macro, syntax, notation, axiom, sorry.
-/
import Derived.Test.YtdelhnefoccnbaaGreatDoorRows
import GoSem.ClaimSeven
namespace Go.Proofs.YtdelhnefoccnbaaGreatDoor
namespace Rows

/-- THE TIED CARD OF 'polderlaw32.TracesNested'. -/
def tracesNestedCard : Claim7 := { stood := { row := tracesNestedRow, standIns := [], harness := (true, "dc551535c70ee476743a44e06c2ecb6a3e8dc77a5ab67976e11bc1010ec543c5"), looks := false }, kinds := [], alts := [], laidByText := true, laidKinds := [.data, .data], laidTests := true, laidLooks := .later }
def TracesNestedCardSaid : Prop := Claim7.holds Tryz.pinned (.plain (OpenSpec.ofChange tracesNestedSpec)) tracesNestedCard

/-- THE TIED CARD OF 'polderlaw32.TracesLives'. -/
def tracesLivesCard : Claim7 := { stood := { row := tracesLivesRow, standIns := [], harness := (true, "dc551535c70ee476743a44e06c2ecb6a3e8dc77a5ab67976e11bc1010ec543c5"), looks := false }, kinds := [], alts := [], laidByText := true, laidKinds := [.data, .data], laidTests := true, laidLooks := .later }
def TracesLivesCardSaid : Prop := Claim7.holds Tryz.pinned (.plain (OpenSpec.ofChange tracesLivesSpec)) tracesLivesCard

/-- THE TIED CARD OF 'polderlaw32.TracesKnown'. -/
def tracesKnownCard : Claim7 := { stood := { row := tracesKnownRow, standIns := [], harness := (true, "dc551535c70ee476743a44e06c2ecb6a3e8dc77a5ab67976e11bc1010ec543c5"), looks := false }, kinds := [], alts := [], laidByText := true, laidKinds := [.data, .data], laidTests := true, laidLooks := .later }
def TracesKnownCardSaid : Prop := Claim7.holds Tryz.pinned (.plain (OpenSpec.ofChange tracesKnownSpec)) tracesKnownCard

/-- THE SECOND FORM's CARD OF 'polderlaw32.TracesNested'. -/
def tracesNestedUptoCard : Claim7 := { stood := { row := tracesNestedUptoRow, standIns := [], harness := (true, "dc551535c70ee476743a44e06c2ecb6a3e8dc77a5ab67976e11bc1010ec543c5"), looks := false }, kinds := [], alts := [], laidByText := true, laidKinds := [.data, .data], laidTests := true, laidLooks := .later }
def TracesNestedUptoCardSaid : Prop := Claim7.holds Tryz.pinned (.plain (OpenSpec.upto tracesNestedSpec)) tracesNestedUptoCard

/-- THE SECOND FORM's CARD OF 'polderlaw32.TracesLives'. -/
def tracesLivesUptoCard : Claim7 := { stood := { row := tracesLivesUptoRow, standIns := [], harness := (true, "dc551535c70ee476743a44e06c2ecb6a3e8dc77a5ab67976e11bc1010ec543c5"), looks := false }, kinds := [], alts := [], laidByText := true, laidKinds := [.data, .data], laidTests := true, laidLooks := .later }
def TracesLivesUptoCardSaid : Prop := Claim7.holds Tryz.pinned (.plain (OpenSpec.upto tracesLivesSpec)) tracesLivesUptoCard

/-- THE SECOND FORM's CARD OF 'polderlaw32.TracesKnown'. -/
def tracesKnownUptoCard : Claim7 := { stood := { row := tracesKnownUptoRow, standIns := [], harness := (true, "dc551535c70ee476743a44e06c2ecb6a3e8dc77a5ab67976e11bc1010ec543c5"), looks := false }, kinds := [], alts := [], laidByText := true, laidKinds := [.data, .data], laidTests := true, laidLooks := .later }
def TracesKnownUptoCardSaid : Prop := Claim7.holds Tryz.pinned (.plain (OpenSpec.upto tracesKnownSpec)) tracesKnownUptoCard
end Rows
end Go.Proofs.YtdelhnefoccnbaaGreatDoor
