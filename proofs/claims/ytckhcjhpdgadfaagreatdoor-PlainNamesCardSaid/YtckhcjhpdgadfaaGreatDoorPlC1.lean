/- What the reader answers: IsText at the five lines. -/
import Derived.Test.YtckhcjhpdgadfaaGreatDoorPlB
set_option linter.all false
namespace Go.Proofs.YtckhcjhpdgadfaaGreatDoor
open Go Go.Qa

theorem r_it1 : run [] 140 [.str tx1] it1 = true := by kernel_rfl
theorem r_it2 : run [] 140 [.str tx2] it2 = true := by kernel_rfl
theorem r_it3 : run [] 140 [.str tx3] it3 = true := by kernel_rfl
theorem r_it4 : run [] 140 [.str tx4] it4 = true := by kernel_rfl
theorem r_it5 : run [] 140 [.str tx5] it5 = true := by kernel_rfl
end Go.Proofs.YtckhcjhpdgadfaaGreatDoor
