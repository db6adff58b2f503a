/- What is said of the tree. -/
import Derived.Test.YtnaahdcahghldaaGreatDoorPlB
set_option linter.all false
set_option maxRecDepth 100000
namespace Go.Proofs.YtnaahdcahghldaaGreatDoor
open Go Go.Qa

theorem r_vl : run [] 92 [tre] vl = true := by kernel_rfl
theorem r_ck : run [mVL] 90 [tre] ck = true := by kernel_rfl
theorem r_fi : run [mVL] 279 [tre, .str [112], .str [97]] fi = true := by kernel_rfl
theorem r_kn : run [mVL] 169 [tre, .str [112]] kn = true := by kernel_rfl
theorem r_rc : run [mVL] 58 [tre, .str [112]] rc = true := by kernel_rfl
theorem r_na : run [mVL] 60 [tre, .str [112]] na = true := by kernel_rfl
end Go.Proofs.YtnaahdcahghldaaGreatDoor
