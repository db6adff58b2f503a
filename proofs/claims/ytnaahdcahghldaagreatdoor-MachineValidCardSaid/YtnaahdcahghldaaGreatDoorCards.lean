/-
  DERIVED. GIVEN WITH THE SEED: THE CARDS: each row of YtnaahdcahghldaaGreatDoorRows.lean that lists a variable, with what it lists TIED to the program's text (the seventh form; the later family's looks); each row that meets fmt, with fmt's text TOLD by the authors' own Lean function (tested against real Go, not proved from fmt's source: count such statements apart). THE CARD IS WHAT COUNTS. Prove the row's statement (the work); the ties are given (YtnaahdcahghldaaGreatDoorTie.lean); close each card by the builder's one call (the guide's Derived/Test/ToyasCard.lean, 'card_holds'). Laid BY PROGRAM, IN A SANDBOX (cutbox-door.mjs). By AI agents, Wed Nov 11 2026. No macro, syntax, notation, axiom, sorry.
-/
import Derived.Test.YtnaahdcahghldaaGreatDoorRows
import GoSem.ClaimSeven
namespace Go.Proofs.YtnaahdcahghldaaGreatDoor
namespace Rows

/-- THE TIED CARD OF 'quadratlaw23.MachineValid'. -/
def machineValidCard : Claim7 := { stood := { row := machineValidRow, standIns := [], harness := (true, "f3af587976bf91eccb0d659c809da9dc34f2ee3a1914df8624b98412c6528694"), looks := true }, kinds := [], alts := [], laidByText := true, laidKinds := [.sentinel, .sentinel, .data, .data, .data, .pinned, .data], laidTests := true, laidLooks := .later }
def MachineValidCardSaid : Prop := Claim7.holds Tryz.pinned (.plain (OpenSpec.ofChange machineValidSpec)) machineValidCard

/-- THE SECOND FORM's CARD OF 'quadratlaw23.MachineValid'. -/
def machineValidUptoCard : Claim7 := { stood := { row := machineValidUptoRow, standIns := [], harness := (true, "f3af587976bf91eccb0d659c809da9dc34f2ee3a1914df8624b98412c6528694"), looks := true }, kinds := [], alts := [], laidByText := true, laidKinds := [.sentinel, .sentinel, .data, .data, .data, .pinned, .data], laidTests := true, laidLooks := .later }
def MachineValidUptoCardSaid : Prop := Claim7.holds Tryz.pinned (.plain (OpenSpec.upto machineValidSpec)) machineValidUptoCard
end Rows
end Go.Proofs.YtnaahdcahghldaaGreatDoor
