/- What is said of the tree, first part. -/
import Derived.Test.YtckhcjhpdgadfaaGreatDoorPlB
set_option linter.all false
namespace Go.Proofs.YtckhcjhpdgadfaaGreatDoor
open Go Go.Qa

theorem r_vl : run [] 269 [tre] vl = true := by kernel_rfl
theorem r_fi : run [mVL] 318 [tre, .str [112], .str [97]] fi = true := by kernel_rfl
theorem r_kn : run [mVL] 371 [tre, .str [112]] kn = true := by kernel_rfl
theorem r_rc : run [mVL] 161 [tre, .str [112]] rc = true := by kernel_rfl
theorem r_jo : run [] 51 [joa] jo = true := by kernel_rfl
theorem r_na : run [mVL] 163 [tre, .str [112]] na = true := by kernel_rfl
end Go.Proofs.YtckhcjhpdgadfaaGreatDoor
