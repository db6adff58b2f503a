/- What the reader answers: IsText and Scan at the lines. -/
import Derived.Test.YtnaahdcahghldaaGreatDoorPlB
set_option linter.all false
set_option maxRecDepth 100000
namespace Go.Proofs.YtnaahdcahghldaaGreatDoor
open Go Go.Qa

theorem r_it1 : run [] 37 [.str tx1] it1 = true := by kernel_rfl
theorem r_it2 : run [] 37 [.str tx2] it2 = true := by kernel_rfl
theorem r_it3 : run [] 37 [.str tx3] it3 = true := by kernel_rfl
theorem r_it4 : run [] 37 [.str tx4] it4 = true := by kernel_rfl
theorem r_it5 : run [] 37 [.str tx5] it5 = true := by kernel_rfl
theorem r_sc1 : run [] 76 [.str tx1] sc1 = true := by kernel_rfl
theorem r_sc2 : run [] 76 [.str tx2] sc2 = true := by kernel_rfl
theorem r_sc3 : run [] 76 [.str tx3] sc3 = true := by kernel_rfl
theorem r_sc4 : run [] 76 [.str tx4] sc4 = true := by kernel_rfl
theorem r_sc5 : run [] 76 [.str tx5] sc5 = true := by kernel_rfl
end Go.Proofs.YtnaahdcahghldaaGreatDoor
