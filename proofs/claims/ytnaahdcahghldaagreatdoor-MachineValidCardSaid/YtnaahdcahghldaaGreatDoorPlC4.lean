/- The tree of the text. -/
import Derived.Test.YtnaahdcahghldaaGreatDoorPlB
set_option linter.all false
set_option maxRecDepth 100000
namespace Go.Proofs.YtnaahdcahghldaaGreatDoor
open Go Go.Qa

theorem r_pr : run [mIT, mSC] 11 [nwr] pr = true := by kernel_rfl
end Go.Proofs.YtnaahdcahghldaaGreatDoor
