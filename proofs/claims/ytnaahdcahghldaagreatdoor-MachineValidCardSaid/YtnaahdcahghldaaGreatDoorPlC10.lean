/- The run itself. -/
import Derived.Test.YtnaahdcahghldaaGreatDoorPlB2
import Derived.Test.YtnaahdcahghldaaGreatDoorPlB3
set_option linter.all false
set_option maxRecDepth 100000
namespace Go.Proofs.YtnaahdcahghldaaGreatDoor
open Go Go.Qa

theorem r_aw : runsTo Tryz.prog (FTH [(32, [cn]), (63, [bd]), (66, [plr]), (132, [trr])] [mKV, mTR] [mNW, mPR, mVL, mCK, mFI, mKN, mRC, mNA]) 100000 6 [] true = true := by kernel_rfl
end Go.Proofs.YtnaahdcahghldaaGreatDoor
