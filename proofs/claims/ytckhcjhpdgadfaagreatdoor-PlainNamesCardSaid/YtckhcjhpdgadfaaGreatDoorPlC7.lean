/- The run itself. -/
import Derived.Test.YtckhcjhpdgadfaaGreatDoorPlB
set_option linter.all false
namespace Go.Proofs.YtckhcjhpdgadfaaGreatDoor
open Go Go.Qa

theorem r_aw : run [mNW, mPR, mVL, mCK, mNA, mRC, mJO, mFI, mKN] 7 [] (.bool true) = true := by kernel_rfl
end Go.Proofs.YtckhcjhpdgadfaaGreatDoor
