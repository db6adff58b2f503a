/- The lines of the text. -/
import Derived.Test.YtanfmlmcddanjaaGreatDoorRPlB
set_option linter.all false
namespace Go.Proofs.YtanfmlmcddanjaaGreatDoorR
open Go Go.Qa

theorem r_nw : run [mIT] 59 [.str tx] nw = true := by kernel_rfl
end Go.Proofs.YtanfmlmcddanjaaGreatDoorR
