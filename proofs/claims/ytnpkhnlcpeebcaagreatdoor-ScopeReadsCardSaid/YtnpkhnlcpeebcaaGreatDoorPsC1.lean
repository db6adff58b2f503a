/- What the reader answers: IsText and Scan at the lines. -/
import Derived.Test.YtnpkhnlcpeebcaaGreatDoorQs14
set_option linter.all false
namespace Go.Proofs.YtnpkhnlcpeebcaaGreatDoor
open Go Go.Qa

theorem r_it1 : run [] 204 [.str tx1] it1 = true := by kernel_rfl
theorem r_it2 : run [] 204 [.str tx2] it2 = true := by kernel_rfl
theorem r_it3 : run [] 204 [.str tx3] it3 = true := by kernel_rfl
theorem r_it4 : run [] 204 [.str tx4] it4 = true := by kernel_rfl
theorem r_it5 : run [] 204 [.str tx5] it5 = true := by kernel_rfl
theorem r_sc1 : run [] 265 [.str tx1] sc1 = true := by kernel_rfl
theorem r_sc2 : run [] 265 [.str tx2] sc2 = true := by kernel_rfl
theorem r_sc3 : run [] 265 [.str tx3] sc3 = true := by kernel_rfl
theorem r_sc4 : run [] 265 [.str tx4] sc4 = true := by kernel_rfl
theorem r_sc5 : run [] 265 [.str tx5] sc5 = true := by kernel_rfl
end Go.Proofs.YtnpkhnlcpeebcaaGreatDoor
