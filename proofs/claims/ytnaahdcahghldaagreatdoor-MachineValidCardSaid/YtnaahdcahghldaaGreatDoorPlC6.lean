/- What is said of kernels. -/
import Derived.Test.YtnaahdcahghldaaGreatDoorPlB
set_option linter.all false
set_option maxRecDepth 100000
namespace Go.Proofs.YtnaahdcahghldaaGreatDoor
open Go Go.Qa

theorem r_kv1 : memoRun Tryz.prog (FT []) 100000 115 kv1a (.bool true) = true := by kernel_rfl
theorem r_kv2 : memoRun Tryz.prog (FT []) 100000 115 kv2a (.bool true) = true := by kernel_rfl
theorem r_tr1 : waysRun Tryz.prog (FT []) 100000 131 tr1a (.tup [.bool true, .int .i64 0]) = true := by kernel_rfl
end Go.Proofs.YtnaahdcahghldaaGreatDoor
