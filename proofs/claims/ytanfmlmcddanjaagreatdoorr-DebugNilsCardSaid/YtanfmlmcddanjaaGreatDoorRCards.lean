/-
  DERIVED. GIVEN WITH THE SEED: THE CARDS: each row of YtanfmlmcddanjaaGreatDoorRRows.lean that lists a variable, with what it lists TIED to the program's text (the seventh form; the later family's looks); each row that meets fmt, with fmt's text TOLD by the authors' own Lean function (tested against real Go, not proved from fmt's source: count such statements apart). THE CARD IS WHAT COUNTS. Prove the row's statement (the work); the ties are given (YtanfmlmcddanjaaGreatDoorRTie.lean); close each card by the builder's one call (the guide's Derived/Test/ToyasCard.lean, 'card_holds'). Laid BY PROGRAM, IN A SANDBOX (cutbox-door.mjs). By AI agents, Wed Nov 11 2026. No macro, syntax, notation, axiom, sorry.
-/
import Derived.Test.YtanfmlmcddanjaaGreatDoorRRows
import GoSem.ClaimSeven
namespace Go.Proofs.YtanfmlmcddanjaaGreatDoorR
namespace Rows

/-- THE TIED CARD OF 'quadratlaw28.DebugNils'. -/
def debugNilsCard : Claim7 := { stood := { row := debugNilsRow, standIns := [], harness := (true, "6eaf5bff1579ab878929c2572a3c66acb5c080a7cee0fe7c5d79de24f3b0daf2"), looks := true }, kinds := [], alts := [], laidByText := true, laidKinds := [.sentinel, .sentinel, .data, .data, .data, .pinned, .data], laidTests := true, laidLooks := .later }
def DebugNilsCardSaid : Prop := Claim7.holds Tryz.pinned (.plain (OpenSpec.ofChange debugNilsSpec)) debugNilsCard

/-- THE SECOND FORM's CARD OF 'quadratlaw28.DebugNils'. -/
def debugNilsUptoCard : Claim7 := { stood := { row := debugNilsUptoRow, standIns := [], harness := (true, "6eaf5bff1579ab878929c2572a3c66acb5c080a7cee0fe7c5d79de24f3b0daf2"), looks := true }, kinds := [], alts := [], laidByText := true, laidKinds := [.sentinel, .sentinel, .data, .data, .data, .pinned, .data], laidTests := true, laidLooks := .later }
def DebugNilsUptoCardSaid : Prop := Claim7.holds Tryz.pinned (.plain (OpenSpec.upto debugNilsSpec)) debugNilsUptoCard
end Rows
end Go.Proofs.YtanfmlmcddanjaaGreatDoorR
