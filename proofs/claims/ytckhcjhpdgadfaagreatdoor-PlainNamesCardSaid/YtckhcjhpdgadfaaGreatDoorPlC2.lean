/- Scan at the five lines. -/
import Derived.Test.YtckhcjhpdgadfaaGreatDoorPlB
set_option linter.all false
namespace Go.Proofs.YtckhcjhpdgadfaaGreatDoor
open Go Go.Qa

theorem r_sc1 : run [] 253 [.str tx1] sc1 = true := by kernel_rfl
theorem r_sc2 : run [] 253 [.str tx2] sc2 = true := by kernel_rfl
theorem r_sc3 : run [] 253 [.str tx3] sc3 = true := by kernel_rfl
theorem r_sc4 : run [] 253 [.str tx4] sc4 = true := by kernel_rfl
theorem r_sc5 : run [] 253 [.str tx5] sc5 = true := by kernel_rfl
end Go.Proofs.YtckhcjhpdgadfaaGreatDoor
