/- It lays them. -/
import Derived.Test.YtnaahdcahghldaaGreatDoorPlT1
import Derived.LaidByTextLater
import Derived.SevenTiedAt
import Derived.LaidSub
import Derived.LaidOnce
set_option linter.all false
set_option maxRecDepth 100000
namespace Go.Proofs.YtnaahdcahghldaaGreatDoor
open Go
theorem ownRun (os : Os) (tape : Tape) : doorLeaves Tryz.prog 100 8 65 laidOwn os tape = some (laidOwn.filter fun x => x.2.handleName?.isNone, (funcsListed laidOwn).map (·.2.funcsOut)) := by kernel_rfl
end Go.Proofs.YtnaahdcahghldaaGreatDoor
