/-
  DERIVED. GIVEN WITH THE SEED: THE CARDS: each row of YtdiolabaijfolaaGreatDoorRows.lean that lists a variable, with what it lists TIED to the program's text (the seventh form; the later family's looks); each row that meets fmt, with fmt's text TOLD by the authors' own Lean function (tested against real Go, not proved from fmt's source: count such statements apart). THE CARD IS WHAT COUNTS. Prove the row's statement (the work); the ties are given (YtdiolabaijfolaaGreatDoorTie.lean); close each card by the builder's one call (the guide's Derived/Test/ToyasCard.lean, 'card_holds'). Laid BY PROGRAM, IN A SANDBOX (cutbox-door.mjs). By AI agents, Wed Nov 11 2026. No macro, syntax, notation, axiom, sorry.
-/
import Derived.Test.YtdiolabaijfolaaGreatDoorRows
import GoSem.ClaimSeven
namespace Go.Proofs.YtdiolabaijfolaaGreatDoor
namespace Rows

/-- THE TIED CARD OF 'almanaclaw20.StoreSplits'. -/
def storeSplitsCard : Claim7 := { stood := { row := storeSplitsRow, standIns := [], harness := (true, "2c83bcbeffb8389d9090513a1b26ddb44b43fe14dc275cf44ef6dc0d509b8cd7"), looks := false }, kinds := [], alts := [], laidByText := true, laidKinds := [.data, .data, .data, .data, .pinned], laidTests := true, laidLooks := .later }
def StoreSplitsCardSaid : Prop := Claim7.holds Tryz.pinned (.plain (OpenSpec.ofChange storeSplitsSpec)) storeSplitsCard

/-- THE SECOND FORM's CARD OF 'almanaclaw20.StoreSplits'. -/
def storeSplitsUptoCard : Claim7 := { stood := { row := storeSplitsUptoRow, standIns := [], harness := (true, "2c83bcbeffb8389d9090513a1b26ddb44b43fe14dc275cf44ef6dc0d509b8cd7"), looks := false }, kinds := [], alts := [], laidByText := true, laidKinds := [.data, .data, .data, .data, .pinned], laidTests := true, laidLooks := .later }
def StoreSplitsUptoCardSaid : Prop := Claim7.holds Tryz.pinned (.plain (OpenSpec.upto storeSplitsSpec)) storeSplitsUptoCard
end Rows
end Go.Proofs.YtdiolabaijfolaaGreatDoor
