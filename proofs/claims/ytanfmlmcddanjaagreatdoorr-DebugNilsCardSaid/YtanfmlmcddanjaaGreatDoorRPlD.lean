/- Awake answers true, in every world. -/
import Derived.Test.YtanfmlmcddanjaaGreatDoorRPlC1
import Derived.Test.YtanfmlmcddanjaaGreatDoorRPlC3
import Derived.Test.YtanfmlmcddanjaaGreatDoorRPlC4
import Derived.Test.YtanfmlmcddanjaaGreatDoorRPlC5
import Derived.Test.YtanfmlmcddanjaaGreatDoorRPlC7
import Derived.Test.YtanfmlmcddanjaaGreatDoorRPlS
set_option linter.all false
namespace Go.Proofs.YtanfmlmcddanjaaGreatDoorR
open Go Go.Qa

theorem k_it : Known [mIT] := known_cons (knows_cons (run_knows known_nil r_it1) (knows_cons (run_knows known_nil r_it2) (knows_cons (run_knows known_nil r_it3) (knows_cons (run_knows known_nil r_it4) (knows_cons (run_knows known_nil r_it5) (knows_cons (run_knows known_nil r_it6) knows_nil)))))) known_nil
theorem k_sc : Known [mSC] := known_cons (knows_cons (run_knows known_nil r_sc1) (knows_cons (run_knows known_nil r_sc2) (knows_cons (run_knows known_nil r_sc3) (knows_cons (run_knows known_nil r_sc4) (knows_cons (run_knows known_nil r_sc5) (knows_cons (run_knows known_nil r_sc6) knows_nil)))))) known_nil
theorem k_is : Known [mIT, mSC] := known_cons (knows_cons (run_knows known_nil r_it1) (knows_cons (run_knows known_nil r_it2) (knows_cons (run_knows known_nil r_it3) (knows_cons (run_knows known_nil r_it4) (knows_cons (run_knows known_nil r_it5) (knows_cons (run_knows known_nil r_it6) knows_nil)))))) k_sc
theorem k_vl : Known [mVL] := known_cons (knows_cons (run_knows known_nil r_vl) knows_nil) known_nil
theorem k_vfk : Known [mVL, mFI, mKN] := known_cons (knows_cons (run_knows known_nil r_vl) knows_nil) (known_cons (knows_cons (run_knows k_vl r_fi) knows_nil) (known_cons (knows_cons (run_knows k_vl r_kn) knows_nil) known_nil))
theorem sh_knows : Knows Tryz.prog 24 shA (.str [51]) := shown_knows (run_knows known_nil r_sw)
theorem k_all : Known [mNW, mPR, mVL, mCK, mNA, mFI, mKN, mPE, mSH] := known_cons (knows_cons (run_knows k_it r_nw) knows_nil) (known_cons (knows_cons (run_knows k_is r_pr) knows_nil) (known_cons (knows_cons (run_knows known_nil r_vl) knows_nil) (known_cons (knows_cons (run_knows k_vfk r_ck) knows_nil) (known_cons (knows_cons (run_knows k_vfk r_na) knows_nil) (known_cons (knows_cons (run_knows k_vl r_fi) knows_nil) (known_cons (knows_cons (run_knows k_vl r_kn) knows_nil) (known_cons (knows_cons (run_knows known_nil r_pe1) (knows_cons (run_knows known_nil r_pe2) knows_nil)) (known_cons (knows_cons sh_knows knows_nil) known_nil))))))))
theorem awake : Knows Tryz.prog 5 [] (.bool true) := run_knows k_all r_aw
end Go.Proofs.YtanfmlmcddanjaaGreatDoorR
