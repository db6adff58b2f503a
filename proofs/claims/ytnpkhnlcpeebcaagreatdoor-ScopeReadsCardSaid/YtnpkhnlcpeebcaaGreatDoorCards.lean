/-
  DERIVED. GIVEN WITH THE SEED: THE CARDS: each row of YtnpkhnlcpeebcaaGreatDoorRows.lean that lists a variable, with what it lists TIED to the program's text (the seventh form; the later family's looks); each row that meets fmt, with fmt's text TOLD by the authors' own Lean function (tested against real Go, not proved from fmt's source: count such statements apart). THE CARD IS WHAT COUNTS. Prove the row's statement (the work); the ties are given (YtnpkhnlcpeebcaaGreatDoorTie.lean); close each card by the builder's one call (the guide's Derived/Test/ToyasCard.lean, 'card_holds'). Laid BY PROGRAM, IN A SANDBOX (cutbox-door.mjs). By AI agents, Wed Nov 11 2026. No macro, syntax, notation, axiom, sorry.
-/
import Derived.Test.YtnpkhnlcpeebcaaGreatDoorRows
import GoSem.ClaimSeven
namespace Go.Proofs.YtnpkhnlcpeebcaaGreatDoor
namespace Rows

/-- THE TIED CARD OF 'quadratlaw08.ScopeUnits'. -/
def scopeUnitsCard : Claim7 := { stood := { row := scopeUnitsRow, standIns := [], harness := (true, "f144d965e475e34c6e1eb3bd074b542e1b433eb951dd543b38487385077b21e2"), looks := true }, kinds := [], alts := [], laidByText := true, laidKinds := [.data, .data, .data, .data, .sentinel, .sentinel, .pinned], laidTests := true, laidLooks := .later }
def ScopeUnitsCardSaid : Prop := Claim7.holds Tryz.pinned (.plain (OpenSpec.ofChange scopeUnitsSpec)) scopeUnitsCard

/-- THE TIED CARD OF 'quadratlaw08.ScopeReads'. -/
def scopeReadsCard : Claim7 := { stood := { row := scopeReadsRow, standIns := [], harness := (true, "f144d965e475e34c6e1eb3bd074b542e1b433eb951dd543b38487385077b21e2"), looks := true }, kinds := [], alts := [], laidByText := true, laidKinds := [.data, .data, .data, .data, .sentinel, .sentinel, .pinned], laidTests := true, laidLooks := .later }
def ScopeReadsCardSaid : Prop := Claim7.holds Tryz.pinned (.plain (OpenSpec.ofChange scopeReadsSpec)) scopeReadsCard

/-- THE TIED CARD OF 'quadratlaw08.ScopeChecks'. -/
def scopeChecksCard : Claim7 := { stood := { row := scopeChecksRow, standIns := [], harness := (true, "f144d965e475e34c6e1eb3bd074b542e1b433eb951dd543b38487385077b21e2"), looks := true }, kinds := [], alts := [], laidByText := true, laidKinds := [.data, .data, .data, .data, .sentinel, .sentinel, .pinned], laidTests := true, laidLooks := .later }
def ScopeChecksCardSaid : Prop := Claim7.holds Tryz.pinned (.plain (OpenSpec.ofChange scopeChecksSpec)) scopeChecksCard

/-- THE TIED CARD OF 'quadratlaw08.ScopeRenames'. -/
def scopeRenamesCard : Claim7 := { stood := { row := scopeRenamesRow, standIns := [], harness := (true, "f144d965e475e34c6e1eb3bd074b542e1b433eb951dd543b38487385077b21e2"), looks := true }, kinds := [], alts := [], laidByText := true, laidKinds := [.data, .data, .data, .data, .sentinel, .sentinel, .pinned], laidTests := true, laidLooks := .later }
def ScopeRenamesCardSaid : Prop := Claim7.holds Tryz.pinned (.plain (OpenSpec.ofChange scopeRenamesSpec)) scopeRenamesCard

/-- THE TIED CARD OF 'quadratlaw08.ScopeFinds'. -/
def scopeFindsCard : Claim7 := { stood := { row := scopeFindsRow, standIns := [], harness := (true, "f144d965e475e34c6e1eb3bd074b542e1b433eb951dd543b38487385077b21e2"), looks := true }, kinds := [], alts := [], laidByText := true, laidKinds := [.data, .data, .data, .data, .sentinel, .sentinel, .pinned], laidTests := true, laidLooks := .later }
def ScopeFindsCardSaid : Prop := Claim7.holds Tryz.pinned (.plain (OpenSpec.ofChange scopeFindsSpec)) scopeFindsCard

/-- THE TIED CARD OF 'quadratlaw08.ScopeKnows'. -/
def scopeKnowsCard : Claim7 := { stood := { row := scopeKnowsRow, standIns := [], harness := (true, "f144d965e475e34c6e1eb3bd074b542e1b433eb951dd543b38487385077b21e2"), looks := true }, kinds := [], alts := [], laidByText := true, laidKinds := [.data, .data, .data, .data, .sentinel, .sentinel, .pinned], laidTests := true, laidLooks := .later }
def ScopeKnowsCardSaid : Prop := Claim7.holds Tryz.pinned (.plain (OpenSpec.ofChange scopeKnowsSpec)) scopeKnowsCard

/-- THE TIED CARD OF 'quadratlaw08.ScopeExports'. -/
def scopeExportsCard : Claim7 := { stood := { row := scopeExportsRow, standIns := [], harness := (true, "f144d965e475e34c6e1eb3bd074b542e1b433eb951dd543b38487385077b21e2"), looks := true }, kinds := [], alts := [], laidByText := true, laidKinds := [.data, .data, .data, .data, .sentinel, .sentinel, .pinned], laidTests := true, laidLooks := .later }
def ScopeExportsCardSaid : Prop := Claim7.holds Tryz.pinned (.plain (OpenSpec.ofChange scopeExportsSpec)) scopeExportsCard

/-- THE TIED CARD OF 'quadratlaw08.ScopeFiles'. -/
def scopeFilesCard : Claim7 := { stood := { row := scopeFilesRow, standIns := [], harness := (true, "f144d965e475e34c6e1eb3bd074b542e1b433eb951dd543b38487385077b21e2"), looks := true }, kinds := [], alts := [], laidByText := true, laidKinds := [.data, .data, .data, .data, .sentinel, .sentinel, .pinned], laidTests := true, laidLooks := .later }
def ScopeFilesCardSaid : Prop := Claim7.holds Tryz.pinned (.plain (OpenSpec.ofChange scopeFilesSpec)) scopeFilesCard

/-- THE SECOND FORM's CARD OF 'quadratlaw08.ScopeUnits'. -/
def scopeUnitsUptoCard : Claim7 := { stood := { row := scopeUnitsUptoRow, standIns := [], harness := (true, "f144d965e475e34c6e1eb3bd074b542e1b433eb951dd543b38487385077b21e2"), looks := true }, kinds := [], alts := [], laidByText := true, laidKinds := [.data, .data, .data, .data, .sentinel, .sentinel, .pinned], laidTests := true, laidLooks := .later }
def ScopeUnitsUptoCardSaid : Prop := Claim7.holds Tryz.pinned (.plain (OpenSpec.upto scopeUnitsSpec)) scopeUnitsUptoCard

/-- THE SECOND FORM's CARD OF 'quadratlaw08.ScopeReads'. -/
def scopeReadsUptoCard : Claim7 := { stood := { row := scopeReadsUptoRow, standIns := [], harness := (true, "f144d965e475e34c6e1eb3bd074b542e1b433eb951dd543b38487385077b21e2"), looks := true }, kinds := [], alts := [], laidByText := true, laidKinds := [.data, .data, .data, .data, .sentinel, .sentinel, .pinned], laidTests := true, laidLooks := .later }
def ScopeReadsUptoCardSaid : Prop := Claim7.holds Tryz.pinned (.plain (OpenSpec.upto scopeReadsSpec)) scopeReadsUptoCard

/-- THE SECOND FORM's CARD OF 'quadratlaw08.ScopeChecks'. -/
def scopeChecksUptoCard : Claim7 := { stood := { row := scopeChecksUptoRow, standIns := [], harness := (true, "f144d965e475e34c6e1eb3bd074b542e1b433eb951dd543b38487385077b21e2"), looks := true }, kinds := [], alts := [], laidByText := true, laidKinds := [.data, .data, .data, .data, .sentinel, .sentinel, .pinned], laidTests := true, laidLooks := .later }
def ScopeChecksUptoCardSaid : Prop := Claim7.holds Tryz.pinned (.plain (OpenSpec.upto scopeChecksSpec)) scopeChecksUptoCard

/-- THE SECOND FORM's CARD OF 'quadratlaw08.ScopeRenames'. -/
def scopeRenamesUptoCard : Claim7 := { stood := { row := scopeRenamesUptoRow, standIns := [], harness := (true, "f144d965e475e34c6e1eb3bd074b542e1b433eb951dd543b38487385077b21e2"), looks := true }, kinds := [], alts := [], laidByText := true, laidKinds := [.data, .data, .data, .data, .sentinel, .sentinel, .pinned], laidTests := true, laidLooks := .later }
def ScopeRenamesUptoCardSaid : Prop := Claim7.holds Tryz.pinned (.plain (OpenSpec.upto scopeRenamesSpec)) scopeRenamesUptoCard

/-- THE SECOND FORM's CARD OF 'quadratlaw08.ScopeFinds'. -/
def scopeFindsUptoCard : Claim7 := { stood := { row := scopeFindsUptoRow, standIns := [], harness := (true, "f144d965e475e34c6e1eb3bd074b542e1b433eb951dd543b38487385077b21e2"), looks := true }, kinds := [], alts := [], laidByText := true, laidKinds := [.data, .data, .data, .data, .sentinel, .sentinel, .pinned], laidTests := true, laidLooks := .later }
def ScopeFindsUptoCardSaid : Prop := Claim7.holds Tryz.pinned (.plain (OpenSpec.upto scopeFindsSpec)) scopeFindsUptoCard

/-- THE SECOND FORM's CARD OF 'quadratlaw08.ScopeKnows'. -/
def scopeKnowsUptoCard : Claim7 := { stood := { row := scopeKnowsUptoRow, standIns := [], harness := (true, "f144d965e475e34c6e1eb3bd074b542e1b433eb951dd543b38487385077b21e2"), looks := true }, kinds := [], alts := [], laidByText := true, laidKinds := [.data, .data, .data, .data, .sentinel, .sentinel, .pinned], laidTests := true, laidLooks := .later }
def ScopeKnowsUptoCardSaid : Prop := Claim7.holds Tryz.pinned (.plain (OpenSpec.upto scopeKnowsSpec)) scopeKnowsUptoCard

/-- THE SECOND FORM's CARD OF 'quadratlaw08.ScopeExports'. -/
def scopeExportsUptoCard : Claim7 := { stood := { row := scopeExportsUptoRow, standIns := [], harness := (true, "f144d965e475e34c6e1eb3bd074b542e1b433eb951dd543b38487385077b21e2"), looks := true }, kinds := [], alts := [], laidByText := true, laidKinds := [.data, .data, .data, .data, .sentinel, .sentinel, .pinned], laidTests := true, laidLooks := .later }
def ScopeExportsUptoCardSaid : Prop := Claim7.holds Tryz.pinned (.plain (OpenSpec.upto scopeExportsSpec)) scopeExportsUptoCard

/-- THE SECOND FORM's CARD OF 'quadratlaw08.ScopeFiles'. -/
def scopeFilesUptoCard : Claim7 := { stood := { row := scopeFilesUptoRow, standIns := [], harness := (true, "f144d965e475e34c6e1eb3bd074b542e1b433eb951dd543b38487385077b21e2"), looks := true }, kinds := [], alts := [], laidByText := true, laidKinds := [.data, .data, .data, .data, .sentinel, .sentinel, .pinned], laidTests := true, laidLooks := .later }
def ScopeFilesUptoCardSaid : Prop := Claim7.holds Tryz.pinned (.plain (OpenSpec.upto scopeFilesSpec)) scopeFilesUptoCard
end Rows
end Go.Proofs.YtnpkhnlcpeebcaaGreatDoor
