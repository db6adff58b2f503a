/- The run: a kernel is planned and run. -/
import Derived.Test.YtnaahdcahghldaaGreatDoorPlB3
set_option linter.all false
set_option maxRecDepth 100000
namespace Go.Proofs.YtnaahdcahghldaaGreatDoor
open Go Go.Qa

theorem r_pl : heapRunT Tryz.prog (FTH [] [mKV, mTR] [mVL, mCK, mFI, mKN, mRC, mNA]) 100000 66 plP plr = true := by kernel_rfl
theorem r_trr : heapRunT Tryz.prog (FTH [] [mKV, mTR] [mVL, mCK, mFI, mKN, mRC, mNA]) 100000 132 trP trr = true := by kernel_rfl
end Go.Proofs.YtnaahdcahghldaaGreatDoor
