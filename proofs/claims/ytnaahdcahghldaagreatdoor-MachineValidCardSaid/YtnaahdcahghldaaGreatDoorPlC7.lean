/- The run: a machine is made. -/
import Derived.Test.YtnaahdcahghldaaGreatDoorPlB2
set_option linter.all false
set_option maxRecDepth 100000
namespace Go.Proofs.YtnaahdcahghldaaGreatDoor
open Go Go.Qa

theorem r_cn : heapRunT Tryz.prog (FTH [] [] [mVL, mCK, mFI, mKN, mRC, mNA]) 100000 32 cnP cn = true := by kernel_rfl
end Go.Proofs.YtnaahdcahghldaaGreatDoor
