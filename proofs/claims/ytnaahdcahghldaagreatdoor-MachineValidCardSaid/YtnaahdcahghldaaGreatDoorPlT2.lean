/- The other word stands not there. -/
import Derived.Test.YtnaahdcahghldaaGreatDoorRows
import Derived.LaidByTextLater
import Derived.SevenTiedAt
import Derived.LaidSub
import Derived.LaidOnce
set_option linter.all false
set_option maxRecDepth 100000
namespace Go.Proofs.YtnaahdcahghldaaGreatDoor
open Go
theorem ownWordNot : Tryz.prog.worded (varsWordLater !true) = false := by kernel_rfl
end Go.Proofs.YtnaahdcahghldaaGreatDoor
