/- The tree of the text. -/
import Derived.Test.YtanfmlmcddanjaaGreatDoorRPlB
set_option linter.all false
namespace Go.Proofs.YtanfmlmcddanjaaGreatDoorR
open Go Go.Qa

theorem r_pr : run [mIT, mSC] 61 [nwr] pr = true := by kernel_rfl
end Go.Proofs.YtanfmlmcddanjaaGreatDoorR
