/- The run itself. -/
import Derived.Test.YtanfmlmcddanjaaGreatDoorRPlB
set_option linter.all false
namespace Go.Proofs.YtanfmlmcddanjaaGreatDoorR
open Go Go.Qa

theorem r_aw : run [mNW, mPR, mVL, mCK, mNA, mFI, mKN, mPE, mSH] 5 [] (.bool true) = true := by kernel_rfl
end Go.Proofs.YtanfmlmcddanjaaGreatDoorR
