/- The function that lays the variables. -/
import Derived.Test.YtnaahdcahghldaaGreatDoorRows
import Derived.LaidByTextLater
import Derived.SevenTiedAt
import Derived.LaidSub
import Derived.LaidOnce
set_option linter.all false
set_option maxRecDepth 100000
namespace Go.Proofs.YtnaahdcahghldaaGreatDoor
open Go
theorem ownVars : (Tryz.prog.funcNamed "gosem.cut.vars").isSome = true := by kernel_rfl
theorem ownVarsId : varsId Tryz.prog = 811 := by kernel_rfl
end Go.Proofs.YtnaahdcahghldaaGreatDoor
