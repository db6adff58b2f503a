/- The lines of the text. -/
import Derived.Test.YtckhcjhpdgadfaaGreatDoorPlB
set_option linter.all false
namespace Go.Proofs.YtckhcjhpdgadfaaGreatDoor
open Go Go.Qa

theorem r_nw : run [mIT] 33 [.str tx] nw = true := by kernel_rfl
end Go.Proofs.YtckhcjhpdgadfaaGreatDoor
