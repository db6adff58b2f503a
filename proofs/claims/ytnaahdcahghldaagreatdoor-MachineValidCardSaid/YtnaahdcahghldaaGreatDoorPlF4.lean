/- Closed facts of MachineValid. -/
import Derived.Test.YtnaahdcahghldaaGreatDoorRows
import Derived.Test.YtnaahdcahghldaaGreatDoorPlF2
import Derived.LaidMore
import Derived.Lay
import Derived.ProofKit
import Derived.OpenShut
import Derived.JoinedOf
import Derived.Stop.Joined
set_option linter.all false
set_option maxRecDepth 100000
namespace Go.Proofs.YtnaahdcahghldaaGreatDoor
open Go.ChangeShapes Go.WideShapes Go.ChangeAt Go.RowKit

theorem zipValid (os : Os) : (witValid os).variablesZipB Tryz.prog = true := by
  unfold witValid
  rw [laid_eq]
  unfold World.holding World.settled World.variablesZipB begin
  rw [waits_ok]
  kernel_rfl
end Go.Proofs.YtnaahdcahghldaaGreatDoor
