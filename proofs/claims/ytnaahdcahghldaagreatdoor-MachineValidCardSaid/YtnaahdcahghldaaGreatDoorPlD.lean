/- Awake answers true, in every world. -/
import Derived.Test.YtnaahdcahghldaaGreatDoorPlC1
import Derived.Test.YtnaahdcahghldaaGreatDoorPlC3
import Derived.Test.YtnaahdcahghldaaGreatDoorPlC4
import Derived.Test.YtnaahdcahghldaaGreatDoorPlC5
import Derived.Test.YtnaahdcahghldaaGreatDoorPlC6
import Derived.Test.YtnaahdcahghldaaGreatDoorPlC7
import Derived.Test.YtnaahdcahghldaaGreatDoorPlC8
import Derived.Test.YtnaahdcahghldaaGreatDoorPlC9
import Derived.Test.YtnaahdcahghldaaGreatDoorPlC10
set_option linter.all false
set_option maxRecDepth 100000
namespace Go.Proofs.YtnaahdcahghldaaGreatDoor
open Go Go.Qa

theorem k_it : Known [mIT] := known_cons (knows_cons (run_knows known_nil r_it1) (knows_cons (run_knows known_nil r_it2) (knows_cons (run_knows known_nil r_it3) (knows_cons (run_knows known_nil r_it4) (knows_cons (run_knows known_nil r_it5) knows_nil))))) known_nil
theorem k_sc : Known [mSC] := known_cons (knows_cons (run_knows known_nil r_sc1) (knows_cons (run_knows known_nil r_sc2) (knows_cons (run_knows known_nil r_sc3) (knows_cons (run_knows known_nil r_sc4) (knows_cons (run_knows known_nil r_sc5) knows_nil))))) known_nil
theorem k_is : Known [mIT, mSC] := known_cons (knows_cons (run_knows known_nil r_it1) (knows_cons (run_knows known_nil r_it2) (knows_cons (run_knows known_nil r_it3) (knows_cons (run_knows known_nil r_it4) (knows_cons (run_knows known_nil r_it5) knows_nil))))) k_sc
theorem k_vl : Known [mVL] := known_cons (knows_cons (run_knows known_nil r_vl) knows_nil) known_nil
theorem k_six : Known [mVL, mCK, mFI, mKN, mRC, mNA] := known_cons (knows_cons (run_knows known_nil r_vl) knows_nil) (known_cons (knows_cons (run_knows k_vl r_ck) knows_nil) (known_cons (knows_cons (run_knows k_vl r_fi) knows_nil) (known_cons (knows_cons (run_knows k_vl r_kn) knows_nil) (known_cons (knows_cons (run_knows k_vl r_rc) knows_nil) (known_cons (knows_cons (run_knows k_vl r_na) knows_nil) known_nil)))))
theorem k_all : Known [mNW, mPR, mVL, mCK, mFI, mKN, mRC, mNA] := known_cons (knows_cons (run_knows k_it r_nw) knows_nil) (known_cons (knows_cons (run_knows k_is r_pr) knows_nil) k_six)
theorem k_kv : Known [mKV] := known_cons (knows_cons (memo_knows (FT_ok known_nil) r_kv1) (knows_cons (memo_knows (FT_ok known_nil) r_kv2) knows_nil)) known_nil
theorem k_tr : Known [mTR] := known_cons (knows_cons (ways_knows (FT_ok known_nil) r_tr1) knows_nil) known_nil
theorem k_kt : Known [mKV, mTR] := known_cons (knows_cons (memo_knows (FT_ok known_nil) r_kv1) (knows_cons (memo_knows (FT_ok known_nil) r_kv2) knows_nil)) k_tr
theorem h_cn : KnowsH Tryz.prog 32 cn := heapT_knows (FTH_ok knownH_nil known_nil k_six) r_cn
theorem h_bd : KnowsH Tryz.prog 63 bd := heapT_knows (FTH_ok knownH_nil k_kv k_six) r_bd
theorem h_pl : KnowsH Tryz.prog 66 plr := heapT_knows (FTH_ok knownH_nil k_kt k_six) r_pl
theorem h_tr : KnowsH Tryz.prog 132 trr := heapT_knows (FTH_ok knownH_nil k_kt k_six) r_trr
theorem awake : Knows Tryz.prog 6 [] (.bool true) := fun W H => runsTo_calls (na := 1) (FTH_ok (knownH_one h_cn (knownH_one h_bd (knownH_one h_pl (knownH_one h_tr knownH_nil)))) k_kt k_all) (fun a ha => by cases ha) r_aw H
end Go.Proofs.YtnaahdcahghldaaGreatDoor
