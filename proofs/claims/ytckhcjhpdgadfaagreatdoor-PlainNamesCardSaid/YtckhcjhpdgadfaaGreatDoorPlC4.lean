/- The tree of the text. -/
import Derived.Test.YtckhcjhpdgadfaaGreatDoorPlB
set_option linter.all false
namespace Go.Proofs.YtckhcjhpdgadfaaGreatDoor
open Go Go.Qa

theorem r_pr : run [mIT, mSC] 35 [nwr] pr = true := by kernel_rfl
end Go.Proofs.YtckhcjhpdgadfaaGreatDoor
