/- What is said of the tree, second part. -/
import Derived.Test.YtckhcjhpdgadfaaGreatDoorPlB
set_option linter.all false
namespace Go.Proofs.YtckhcjhpdgadfaaGreatDoor
open Go Go.Qa

theorem r_ck : run [mVL] 267 [tre] ck = true := by kernel_rfl
end Go.Proofs.YtckhcjhpdgadfaaGreatDoor
