/- Closed facts of MachineValid: a first world; no variable waits. -/
import Derived.Test.YtnaahdcahghldaaGreatDoorRows
import Derived.LaidMore
import Derived.Lay
import Derived.ProofKit
import Derived.OpenShut
import Derived.JoinedOf
import Derived.Stop.Joined
set_option linter.all false
set_option maxRecDepth 100000
namespace Go.Proofs.YtnaahdcahghldaaGreatDoor
open Go.ChangeShapes Go.WideShapes Go.ChangeAt Go.RowKit

noncomputable def witValid (os : Os) : World := (World.laidAll Tryz.prog os Rows.machineValidRow.laid).forCall (fun _ _ => 0) ⟨#[], #[.agg #[.bool false, .bool false, .bool false, .bool false, .int .i64 0, .int .i64 0]], []⟩
theorem waits_ok : waiting Tryz.prog = Array.replicate Tryz.prog.globals.size false := by kernel_rfl
end Go.Proofs.YtnaahdcahghldaaGreatDoor
