/- It names them. -/
import Derived.Test.YtckhcjhpdgadfaaGreatDoorPlT1
import Derived.LaidByTextLater
import Derived.SevenTiedAt
import Derived.LaidSub
import Derived.LaidOnce
set_option linter.all false
set_option maxRecDepth 100000
namespace Go.Proofs.YtckhcjhpdgadfaaGreatDoor
open Go
theorem ownNamed0 : varsNamedLaterB Tryz.prog 662 laidOwn = true := by kernel_rfl
end Go.Proofs.YtckhcjhpdgadfaaGreatDoor
