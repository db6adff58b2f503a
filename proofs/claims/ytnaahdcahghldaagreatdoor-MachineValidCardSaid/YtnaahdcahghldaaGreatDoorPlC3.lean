/- The lines of the text. -/
import Derived.Test.YtnaahdcahghldaaGreatDoorPlB
set_option linter.all false
set_option maxRecDepth 100000
namespace Go.Proofs.YtnaahdcahghldaaGreatDoor
open Go Go.Qa

theorem r_nw : run [mIT] 9 [.str tx] nw = true := by kernel_rfl
end Go.Proofs.YtnaahdcahghldaaGreatDoor
