/- What is said of the tree, and of the small texts. -/
import Derived.Test.YtanfmlmcddanjaaGreatDoorRPlB
set_option linter.all false
namespace Go.Proofs.YtanfmlmcddanjaaGreatDoorR
open Go Go.Qa

theorem r_vl : run [] 228 [tre] vl = true := by kernel_rfl
theorem r_fi : run [mVL] 439 [tre, .str [112], .str [105]] fi = true := by kernel_rfl
theorem r_kn : run [mVL] 386 [tre, .str [112]] kn = true := by kernel_rfl
theorem r_pe1 : run [] 22 [.str [105, 32, 61, 61, 32, 51]] pe1 = true := by kernel_rfl
theorem r_pe2 : run [] 22 [.str [105]] pe2 = true := by kernel_rfl
theorem r_sw : run [] 51 [.agg [.int .i64 1, .int .i64 3]] sw = true := by kernel_rfl
theorem r_ck : run [mVL, mFI, mKN] 226 [tre] ck = true := by kernel_rfl
theorem r_na : run [mVL, mFI, mKN] 129 [tre, .str [112]] na = true := by kernel_rfl
end Go.Proofs.YtanfmlmcddanjaaGreatDoorR
