/- Closed facts of MachineValid. -/
import Derived.Test.YtnaahdcahghldaaGreatDoorRows
import Derived.Test.YtnaahdcahghldaaGreatDoorPlF2
import Derived.LaidMore
import Derived.Lay
import Derived.ProofKit
import Derived.OpenShut
import Derived.JoinedOf
import Derived.Stop.Joined
set_option linter.all false
set_option maxRecDepth 100000
namespace Go.Proofs.YtnaahdcahghldaaGreatDoor
open Go.ChangeShapes Go.WideShapes Go.ChangeAt Go.RowKit

theorem ifacesValid (os : Os) : (World.holding Tryz.prog os ⟨#[], #[], []⟩).layIfaces Tryz.prog Rows.machineValidRow.laid (World.laidAll Tryz.prog os Rows.machineValidRow.laid) = true :=
  layIfaces_of (hsz os) exY.2 (by
    rw [laid_eq]
    unfold World.holding World.settled begin
    rw [waits_ok]
    kernel_rfl) (by
    rw [laid_eq]
    unfold World.holding World.settled begin
    rw [waits_ok]
    kernel_rfl)
end Go.Proofs.YtnaahdcahghldaaGreatDoor
