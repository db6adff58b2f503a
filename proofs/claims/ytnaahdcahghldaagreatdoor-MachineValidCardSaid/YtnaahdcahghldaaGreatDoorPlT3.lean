/- The root word; the kinds. -/
import Derived.Test.YtnaahdcahghldaaGreatDoorPlT1
import Derived.LaidByTextLater
import Derived.SevenTiedAt
import Derived.LaidSub
import Derived.LaidOnce
set_option linter.all false
set_option maxRecDepth 100000
namespace Go.Proofs.YtnaahdcahghldaaGreatDoor
open Go
theorem ownRoot : Tryz.prog.worded rootWordLater = true := by kernel_rfl
theorem ownKinds : laidOwn.map (fun x => Tryz.prog.kindOfLater x.1) = ([.sentinel, .sentinel, .data, .data, .data, .data] : List LaidKind).map some := by kernel_rfl
end Go.Proofs.YtnaahdcahghldaaGreatDoor
