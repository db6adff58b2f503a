/- The run: a kernel is built. -/
import Derived.Test.YtnaahdcahghldaaGreatDoorPlB2
set_option linter.all false
set_option maxRecDepth 100000
namespace Go.Proofs.YtnaahdcahghldaaGreatDoor
open Go Go.Qa

theorem r_bd : heapRunT Tryz.prog (FTH [] [mKV] [mVL, mCK, mFI, mKN, mRC, mNA]) 100000 63 bdP bd = true := by kernel_rfl
end Go.Proofs.YtnaahdcahghldaaGreatDoor
