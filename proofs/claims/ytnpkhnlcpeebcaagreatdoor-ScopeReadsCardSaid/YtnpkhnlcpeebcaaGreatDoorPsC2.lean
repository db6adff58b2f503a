/- The lines of the text, and its tree. -/
import Derived.Test.YtnpkhnlcpeebcaaGreatDoorQs14
set_option linter.all false
namespace Go.Proofs.YtnpkhnlcpeebcaaGreatDoor
open Go Go.Qa

theorem r_nw : run [mIT] 94 [.str tx] nw = true := by kernel_rfl
theorem r_pr : run [mIT, mSC] 96 [nwr] pr = true := by kernel_rfl
end Go.Proofs.YtnpkhnlcpeebcaaGreatDoor
