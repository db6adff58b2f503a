/-
  DERIVED. GIVEN WITH THE SEED: THE CARDS: each row of YtckhcjhpdgadfaaGreatDoorRows.lean that lists a variable, with what it lists TIED to the program's text (the seventh form; the later family's looks); each row that meets fmt, with fmt's text TOLD by the authors' own Lean function (tested against real Go, not proved from fmt's source: count such statements apart). THE CARD IS WHAT COUNTS. Prove the row's statement (the work); the ties are given (YtckhcjhpdgadfaaGreatDoorTie.lean); close each card by the builder's one call (the guide's Derived/Test/ToyasCard.lean, 'card_holds'). Laid BY PROGRAM, IN A SANDBOX (cutbox-door.mjs). By AI agents, Wed Nov 11 2026. No macro, syntax, notation, axiom, sorry.
-/
import Derived.Test.YtckhcjhpdgadfaaGreatDoorRows
import GoSem.ClaimSeven
namespace Go.Proofs.YtckhcjhpdgadfaaGreatDoor
namespace Rows

/-- THE TIED CARD OF 'quadratlaw13.PlainNames'. -/
def plainNamesCard : Claim7 := { stood := { row := plainNamesRow, standIns := [], harness := (true, "b02fa8a66fb65c838fb934db9d9c9ff7fc66b853231b51ba829d84e98d50401c"), looks := true }, kinds := [], alts := [], laidByText := true, laidKinds := [.sentinel, .sentinel, .data, .data, .data, .pinned, .data], laidTests := true, laidLooks := .later }
def PlainNamesCardSaid : Prop := Claim7.holds Tryz.pinned (.plain (OpenSpec.ofChange plainNamesSpec)) plainNamesCard

/-- THE TIED CARD OF 'quadratlaw13.PlainNil'. -/
def plainNilCard : Claim7 := { stood := { row := plainNilRow, standIns := [], harness := (true, "b02fa8a66fb65c838fb934db9d9c9ff7fc66b853231b51ba829d84e98d50401c"), looks := true }, kinds := [], alts := [], laidByText := true, laidKinds := [.sentinel, .sentinel, .data, .data, .data, .pinned, .data], laidTests := true, laidLooks := .later }
def PlainNilCardSaid : Prop := Claim7.holds Tryz.pinned (.plain (OpenSpec.ofChange plainNilSpec)) plainNilCard

/-- THE SECOND FORM's CARD OF 'quadratlaw13.PlainNames'. -/
def plainNamesUptoCard : Claim7 := { stood := { row := plainNamesUptoRow, standIns := [], harness := (true, "b02fa8a66fb65c838fb934db9d9c9ff7fc66b853231b51ba829d84e98d50401c"), looks := true }, kinds := [], alts := [], laidByText := true, laidKinds := [.sentinel, .sentinel, .data, .data, .data, .pinned, .data], laidTests := true, laidLooks := .later }
def PlainNamesUptoCardSaid : Prop := Claim7.holds Tryz.pinned (.plain (OpenSpec.upto plainNamesSpec)) plainNamesUptoCard

/-- THE SECOND FORM's CARD OF 'quadratlaw13.PlainNil'. -/
def plainNilUptoCard : Claim7 := { stood := { row := plainNilUptoRow, standIns := [], harness := (true, "b02fa8a66fb65c838fb934db9d9c9ff7fc66b853231b51ba829d84e98d50401c"), looks := true }, kinds := [], alts := [], laidByText := true, laidKinds := [.sentinel, .sentinel, .data, .data, .data, .pinned, .data], laidTests := true, laidLooks := .later }
def PlainNilUptoCardSaid : Prop := Claim7.holds Tryz.pinned (.plain (OpenSpec.upto plainNilSpec)) plainNilUptoCard
end Rows
end Go.Proofs.YtckhcjhpdgadfaaGreatDoor
