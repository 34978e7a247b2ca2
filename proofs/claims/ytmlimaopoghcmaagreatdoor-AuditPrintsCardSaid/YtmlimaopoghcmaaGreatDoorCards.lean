/-
  DERIVED. GIVEN WITH THE SEED: THE CARDS: each row of YtmlimaopoghcmaaGreatDoorRows.lean that lists a variable, with what it lists TIED to the program's text (the seventh form; the later family's looks); each row that meets fmt, with fmt's text TOLD by the authors' own Lean function (tested against real Go, not proved from fmt's source: count such statements apart). THE CARD IS WHAT COUNTS. Prove the row's statement (the work); the ties are given (YtmlimaopoghcmaaGreatDoorTie.lean); close each card by the builder's one call (the guide's Derived/Test/ToyasCard.lean, 'card_holds'). Laid BY PROGRAM, IN A SANDBOX (cutbox-door.mjs). By AI agents, Wed Nov 11 2026. No macro, syntax, notation, axiom, sorry.
-/
import Derived.Test.YtmlimaopoghcmaaGreatDoorRows
import GoSem.ClaimSeven
namespace Go.Proofs.YtmlimaopoghcmaaGreatDoor
namespace Rows

/-- THE TIED CARD OF 'polderlaw28.AuditPrints'. -/
def auditPrintsCard : Claim7 := { stood := { row := auditPrintsRow, standIns := [], harness := (true, "35c6855e6d23ea499f2709be27977ee5febea51041b494e5456bdc03f7899695"), looks := false }, kinds := [], alts := [], laidByText := true, laidKinds := [.data, .data, .data], laidTests := true, laidLooks := .later }
def AuditPrintsCardSaid : Prop := Claim7.holds Tryz.pinned (.plain (OpenSpec.ofChange auditPrintsSpec)) auditPrintsCard

/-- THE SECOND FORM's CARD OF 'polderlaw28.AuditPrints'. -/
def auditPrintsUptoCard : Claim7 := { stood := { row := auditPrintsUptoRow, standIns := [], harness := (true, "35c6855e6d23ea499f2709be27977ee5febea51041b494e5456bdc03f7899695"), looks := false }, kinds := [], alts := [], laidByText := true, laidKinds := [.data, .data, .data], laidTests := true, laidLooks := .later }
def AuditPrintsUptoCardSaid : Prop := Claim7.holds Tryz.pinned (.plain (OpenSpec.upto auditPrintsSpec)) auditPrintsUptoCard
end Rows
end Go.Proofs.YtmlimaopoghcmaaGreatDoor
