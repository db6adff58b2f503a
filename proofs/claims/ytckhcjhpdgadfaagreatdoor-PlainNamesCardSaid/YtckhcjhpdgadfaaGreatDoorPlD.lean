/- Awake answers true, in every world. -/
import Derived.Test.YtckhcjhpdgadfaaGreatDoorPlC1
import Derived.Test.YtckhcjhpdgadfaaGreatDoorPlC2
import Derived.Test.YtckhcjhpdgadfaaGreatDoorPlC3
import Derived.Test.YtckhcjhpdgadfaaGreatDoorPlC4
import Derived.Test.YtckhcjhpdgadfaaGreatDoorPlC5
import Derived.Test.YtckhcjhpdgadfaaGreatDoorPlC6
import Derived.Test.YtckhcjhpdgadfaaGreatDoorPlC7
set_option linter.all false
namespace Go.Proofs.YtckhcjhpdgadfaaGreatDoor
open Go Go.Qa

theorem k_it : Known [mIT] := known_cons (knows_cons (run_knows known_nil r_it1) (knows_cons (run_knows known_nil r_it2) (knows_cons (run_knows known_nil r_it3) (knows_cons (run_knows known_nil r_it4) (knows_cons (run_knows known_nil r_it5) knows_nil))))) known_nil
theorem k_sc : Known [mSC] := known_cons (knows_cons (run_knows known_nil r_sc1) (knows_cons (run_knows known_nil r_sc2) (knows_cons (run_knows known_nil r_sc3) (knows_cons (run_knows known_nil r_sc4) (knows_cons (run_knows known_nil r_sc5) knows_nil))))) known_nil
theorem k_is : Known [mIT, mSC] := known_cons (knows_cons (run_knows known_nil r_it1) (knows_cons (run_knows known_nil r_it2) (knows_cons (run_knows known_nil r_it3) (knows_cons (run_knows known_nil r_it4) (knows_cons (run_knows known_nil r_it5) knows_nil))))) k_sc
theorem k_vl : Known [mVL] := known_cons (knows_cons (run_knows known_nil r_vl) knows_nil) known_nil
theorem k_all : Known [mNW, mPR, mVL, mCK, mNA, mRC, mJO, mFI, mKN] := known_cons (knows_cons (run_knows k_it r_nw) knows_nil) (known_cons (knows_cons (run_knows k_is r_pr) knows_nil) (known_cons (knows_cons (run_knows known_nil r_vl) knows_nil) (known_cons (knows_cons (run_knows k_vl r_ck) knows_nil) (known_cons (knows_cons (run_knows k_vl r_na) knows_nil) (known_cons (knows_cons (run_knows k_vl r_rc) knows_nil) (known_cons (knows_cons (run_knows known_nil r_jo) knows_nil) (known_cons (knows_cons (run_knows k_vl r_fi) knows_nil) (known_cons (knows_cons (run_knows k_vl r_kn) knows_nil) known_nil))))))))
theorem awake : Knows Tryz.prog 7 [] (.bool true) := run_knows k_all r_aw
end Go.Proofs.YtckhcjhpdgadfaaGreatDoor
