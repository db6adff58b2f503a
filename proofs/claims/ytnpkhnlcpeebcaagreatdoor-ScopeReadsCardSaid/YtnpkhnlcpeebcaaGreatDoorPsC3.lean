/- What is said of the tree. -/
import Derived.Test.YtnpkhnlcpeebcaaGreatDoorQs14
set_option linter.all false
namespace Go.Proofs.YtnpkhnlcpeebcaaGreatDoor
open Go Go.Qa

theorem r_vl : run [] 39 [tre] vl = true := by kernel_rfl
theorem r_fi1 : run [mVL] 28 [tre, .str [112], .str [98]] fi1 = true := by kernel_rfl
theorem r_fi2 : run [mVL] 28 [tre, .str [112], .str [97]] fi2 = true := by kernel_rfl
theorem r_aw : run [mNW, mPR, mFI] 12 [] (.bool true) = true := by kernel_rfl
end Go.Proofs.YtnpkhnlcpeebcaaGreatDoor
