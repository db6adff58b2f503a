/- Closed facts of MachineValid. -/
import Derived.Test.YtnaahdcahghldaaGreatDoorRows
import Derived.Test.YtnaahdcahghldaaGreatDoorPlF2
import Derived.LaidMore
import Derived.Lay
import Derived.ProofKit
import Derived.OpenShut
import Derived.JoinedOf
import Derived.Stop.Joined
set_option linter.all false
set_option maxRecDepth 100000
namespace Go.Proofs.YtnaahdcahghldaaGreatDoor
open Go.ChangeShapes Go.WideShapes Go.ChangeAt Go.RowKit

theorem sizedValid (os : Os) {H : Type} (enc : TypeId × Value → H) : Rows.machineValidSpec.sizedB enc Tryz.prog Tryz.f3 false (witValid os).memory #[.agg #[.bool false, .bool false, .bool false, .bool false, .int .i64 0, .int .i64 0]] 8 = true := by
  unfold witValid
  rw [laid_eq]
  unfold World.holding World.settled begin
  rw [waits_ok]
  kernel_rfl
end Go.Proofs.YtnaahdcahghldaaGreatDoor
