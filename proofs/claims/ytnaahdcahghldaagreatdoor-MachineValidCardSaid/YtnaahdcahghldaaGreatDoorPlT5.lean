/- It names them. -/
import Derived.Test.YtnaahdcahghldaaGreatDoorPlT1
import Derived.LaidByTextLater
import Derived.SevenTiedAt
import Derived.LaidSub
import Derived.LaidOnce
set_option linter.all false
set_option maxRecDepth 100000
namespace Go.Proofs.YtnaahdcahghldaaGreatDoor
open Go
theorem ownNamed0 : varsNamedLaterB Tryz.prog 811 laidOwn = true := by kernel_rfl
end Go.Proofs.YtnaahdcahghldaaGreatDoor
