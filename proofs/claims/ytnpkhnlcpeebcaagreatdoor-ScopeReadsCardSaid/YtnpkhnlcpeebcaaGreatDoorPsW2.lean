/- What scope.Read asks for, printed by program (gw.py). -/
import Derived.Test.YtnpkhnlcpeebcaaGreatDoorQs12
import Derived.Test.YtnpkhnlcpeebcaaGreatDoorQs10
set_option linter.all false
set_option maxRecDepth 100000
namespace Go.Proofs.YtnpkhnlcpeebcaaGreatDoor
open Go Go.Qa Go.Proofs
/-- quadrat/scope.Read -/
def W19 (W0 : World) (a0 : AV) (h : EH) (k : AV → EH → Prop) : Prop :=
 al [(.str [])] h fun v1 h1 =>
 al [(.int .i64 0)] h1 fun v2 h2 =>
 al [(.pl (.slice none 0 0))] h2 fun v3 h3 =>
 al [(.pl (.slice none 0 0))] h3 fun v4 h4 =>
 al [(.int .i64 0)] h4 fun v5 h5 =>
 ca W0 45 [a0, (.str [10])] h5 fun v6 h6 =>
 ex v6 0 fun v7 =>
 ex v6 1 fun v8 =>
 ex v6 2 fun v9 =>
 ca W0 46 [v7, (.str [32])] h6 fun v10 h7 =>
 pW (.un .not (.c v9)) fun v11 =>
 ∃ J1 : AV → EH → Prop, (∀ v12 h8, J1 v12 h8 →
 pk v11 (.bool true) v12 fun v13 =>
 ∃ J2 : AV → EH → Prop, (∀ v14 h9, J2 v14 h9 →
 pk v13 (.bool true) v14 fun v15 =>
 ∃ J3 : AV → EH → Prop, (∀ v16 h10, J3 v16 h10 →
 pk v15 (.bool true) v16 fun v17 =>
 cn v17 (
 st 1 v1 (.str []) h10 fun v18 h11 =>
 st 1 v2 (.int .i64 0) h11 fun v19 h12 =>
 st 1 v3 (.pl (.slice none 0 0)) h12 fun v20 h13 =>
 st 1 v4 (.pl (.slice none 0 0)) h13 fun v21 h14 =>
 st 1 v5 (.int .i64 3) h14 fun v22 h15 =>
 retW [.c none v1, .c none v2, .c none v3, .c none v4, .c none v5] h15 k)
 (ia 1 v10 (.int .i64 2) fun v23 =>
 ld h10 v23 fun v24 =>
 ca W0 48 [v24, (.int .i64 65521)] h10 fun v25 h16 =>
 ex v25 0 fun v26 =>
 ex v25 1 fun v27 =>
 st 1 v2 v26 h16 fun v28 h17 =>
 pW (.un .not (.c v27)) fun v29 =>
 ∃ J4 : AV → AV → AV → AV → EH → Prop, (∀ v30 v31 v32 v33 h18, J4 v30 v31 v32 v33 h18 →
 pk v29 (.bool true) v33 fun v34 =>
 ∃ J5 : AV → AV → AV → AV → AV → AV → AV → EH → Prop, (∀ v35 v36 v37 v38 v39 v40 v41 h19, J5 v35 v36 v37 v38 v39 v40 v41 h19 →
 pk v34 (.bool true) v41 fun v42 =>
 cn v42 (
 st 1 v1 (.str []) h19 fun v43 h20 =>
 st 1 v2 (.int .i64 0) h20 fun v44 h21 =>
 st 1 v3 (.pl (.slice none 0 0)) h21 fun v45 h22 =>
 st 1 v4 (.pl (.slice none 0 0)) h22 fun v46 h23 =>
 st 1 v5 (.int .i64 3) h23 fun v47 h24 =>
 retW [.c none v1, .c none v2, .c none v3, .c none v4, .c none v5] h24 k)
 (ca W0 51 [v8] h19 fun v48 h25 =>
 rg Tryz.prog W0 v48 [AV.hide a0, .any, AV.hide v1, AV.hide v2, AV.hide v3, AV.hide v4, AV.hide v5, AV.hide v7, AV.hide v8, AV.hide v9, AV.hide v10, AV.hide v27, .any, .any, .any, .any, AV.hide v6, AV.hide a0, AV.hide v6, AV.hide v7, AV.hide v8, AV.hide v9, AV.hide v7, AV.hide v10, AV.hide v9, AV.hide v11, AV.hide v11, .any, .any, AV.hide v12, AV.hide v13, AV.hide v13, .any, .any, .any, AV.hide v14, AV.hide v15, AV.hide v15, .any, .any, .any, .any, AV.hide v16, AV.hide v17, AV.hide v25, AV.hide v10, AV.hide v23, AV.hide v24, AV.hide v25, AV.hide v26, AV.hide v27, AV.hide v27, AV.hide v29, AV.hide v29, AV.hide v30, AV.hide v31, AV.hide v32, AV.hide v33, AV.hide v34, AV.hide v34, AV.hide v35, AV.hide v36, AV.hide v37, AV.hide v38, AV.hide v39, AV.hide v40, AV.hide v41, AV.hide v42, AV.hide v8, AV.hide v48, .any, .any, .any, .any, .any, .any, .any, .any, .any, .any, .any, .any, .any, .any, .any, .any, .any, .any, .any, .any, .any, .any, .any, .any, .any, .any, .any, .any, .any, .any, .any, .any, .any, .any, .any, .any, .any, .any, .any] [70] (rfA Tryz.f19) (rfB Tryz.f19) h25 (fun h26 =>
 ia 1 v10 (.int .i64 1) fun v49 =>
 ld h26 v49 fun v50 =>
 ld h26 v2 fun v51 =>
 ld h26 v3 fun v52 =>
 ld h26 v4 fun v53 =>
 st 1 v1 v50 h26 fun v54 h29 =>
 ckP (.load none (.c v4)) h29 v53 ∧
 ckP (.load none (.c v3)) h29 v52 ∧
 ckP (.load none (.c v2)) h29 v51 ∧
 st 1 v2 v51 h29 fun v55 h30 =>
 ckP (.load none (.c v4)) h30 v53 ∧
 ckP (.load none (.c v3)) h30 v52 ∧
 st 1 v3 v52 h30 fun v56 h31 =>
 ckP (.load none (.c v4)) h31 v53 ∧
 st 1 v4 v53 h31 fun v57 h32 =>
 st 1 v5 (.int .i64 0) h32 fun v58 h33 =>
 retW [.c none v1, .c none v2, .c none v3, .c none v4, .c none v5] h33 k) (fun h27 =>
 retW [.c none v1, .c none v2, .c none v3, .c none v4, .c none v5] h27 k))) ∧
 (cg v34 false (
 bi .neq v8 (.str []) fun v59 =>
 ∃ J6 : AV → AV → AV → EH → Prop, (∀ v60 v61 v62 h34, J6 v60 v61 v62 h34 →
 pk v59 v62 (.bool false) fun v63 =>
 J5 v8 v59 v59 v60 v61 v62 v63 h34) ∧
 (cg v59 true (
 ca W0 50 [v8, (.str [10])] h18 fun v64 h35 =>
 pW (.un .not (.c v64)) fun v65 =>
 J6 v8 v64 v65 h35)
 (J6 (.pl undef) (.pl undef) (.pl undef) h18)))
 (J5 (.pl undef) (.pl undef) (.pl undef) (.pl undef) (.pl undef) (.pl undef) (.pl undef) h18))) ∧
 (cg v29 false (
 ld h17 v2 fun v66 =>
 ca W0 49 [v8] h17 fun v67 h36 =>
 ckP (.load none (.c v2)) h36 v66 ∧
 bi .neq v66 v67 fun v68 =>
 J4 v66 v8 v67 v68 h36)
 (J4 (.pl undef) (.pl undef) (.pl undef) (.pl undef) h17)))) ∧
 (cg v15 false (
 ia 1 v10 (.int .i64 1) fun v69 =>
 ld h9 v69 fun v70 =>
 ca W0 47 [v70] h9 fun v71 h37 =>
 pW (.un .not (.c v71)) fun v72 =>
 J3 v72 h37)
 (J3 (.pl undef) h9))) ∧
 (cg v13 false (
 ia 1 v10 (.int .i64 0) fun v73 =>
 ld h8 v73 fun v74 =>
 bi .neq v74 (.str [109, 111, 100, 117, 108, 101]) fun v75 =>
 J2 v75 h8)
 (J2 (.pl undef) h8))) ∧
 (cg v11 false (
 lnR v10 fun v76 =>
 bi .neq v76 (.int .i64 3) fun v77 =>
 J1 v77 h7)
 (J1 (.pl undef) h7))
theorem W19_ok {W0 : World} {a0 : AV} {h : EH} {k : AV → EH → Prop} (e : W19 W0 a0 h k) : SCalls Tryz.prog W0 19 [a0] h k :=
  jcalls_of 1 Tryz.func19 (by kernel_rfl) (hs := List.range 109) (ks := [none, none, none, none, none, some [29], some [35], some [42], none, none, none, none, none, none, none, none]) (by kernel_rfl) rfl ((by kernel_rfl : W19 W0 a0 h k = sjF Tryz.prog W0 Tryz.f19 (List.range 109) [none, none, none, none, none, some [29], some [35], some [42], none, none, none, none, none, none, none, none] [a0] h k).mp e)
def WR19 (W0 : World) (b : Nat) (x0 x2 x3 x4 x5 x6 x7 x8 x9 x10 x11 x16 x17 x18 x19 x20 x21 x22 x23 x24 x25 x26 x29 x30 x31 x35 x36 x37 x42 x43 x44 x45 x46 x47 x48 x49 x50 x51 x52 x53 x54 x55 x56 x57 x58 x59 x60 x61 x62 x63 x64 x65 x66 x67 x68 x69 y0 : AV) (h : EH) (k : AV → EH → Prop) : Prop :=
 rbW b h fun h1 =>
 ca W0 53 [y0, (.str [10])] h1 fun v1 h2 =>
 ca W0 52 [v1] h2 fun v2 h3 =>
 ex v2 0 fun v3 =>
 ex v2 1 fun v4 =>
 ex v2 2 fun v5 =>
 al [(.str []), (.str []), (.int .i64 0), (.int .i64 0), (.bool false)] h3 fun v6 h4 =>
 st 5 v6 v4 h4 fun v7 h5 =>
 pW (.un .not (.c v5)) fun v8 =>
 ∃ J1 : AV → EH → Prop, (∀ v9 h6, J1 v9 h6 →
 pk v8 (.bool true) v9 fun v10 =>
 cn v10 (
 st 1 (AV.hide x2) (.str []) h6 fun v11 h7 =>
 st 1 (AV.hide x3) (.int .i64 0) h7 fun v12 h8 =>
 st 1 (AV.hide x4) (.pl (.slice none 0 0)) h8 fun v13 h9 =>
 st 1 (AV.hide x5) (.pl (.slice none 0 0)) h9 fun v14 h10 =>
 st 1 (AV.hide x6) (.int .i64 3) h10 fun v15 h11 =>
 rrW b h11 k)
 (ld h6 (AV.hide x4) fun v16 =>
 eW (.bslice 1 [(.c v3)]) h6 fun v17 h12 =>
 ld h12 (AV.hide x5) fun v18 =>
 ldn 5 h12 v6 fun v19 =>
 eW (.bslice 5 [(.c v19)]) h12 fun v20 h13 =>
 eW (.append 1 16 false (.c v16) (.c v17)) h13 fun v21 h14 =>
 ckP (.load (some 5) (.c v6)) h14 v19 ∧
 ckP (.load none (.c (AV.hide x5))) h14 v18 ∧
 eW (.append 5 56 false (.c v18) (.c v20)) h14 fun v22 h15 =>
 st 1 (AV.hide x4) v21 h15 fun v23 h16 =>
 st 1 (AV.hide x5) v22 h16 fun v24 h17 =>
 rnW b h17 k)) ∧
 (cg v8 false (
 ld h5 (AV.hide x4) fun v25 =>
 lnR v25 fun v26 =>
 bi .gtr v26 (.int .i64 0) fun v27 =>
 ∃ J2 : AV → EH → Prop, (∀ v28 h18, J2 v28 h18 →
 pk v27 v28 (.bool false) fun v29 =>
 J1 v29 h18) ∧
 (cg v27 true (
 ld h5 (AV.hide x4) fun v30 =>
 ld h5 (AV.hide x4) fun v31 =>
 lnR v31 fun v32 =>
 bi .sub v32 (.int .i64 1) fun v33 =>
 ia 1 v30 v33 fun v34 =>
 ld h5 v34 fun v35 =>
 bi .geq v35 v3 fun v36 =>
 J2 v36 h5)
 (J2 (.pl undef) h5)))
 (J1 (.pl undef) h5))
theorem WR19_ok {W0 : World} {b : Nat} {x0 x2 x3 x4 x5 x6 x7 x8 x9 x10 x11 x16 x17 x18 x19 x20 x21 x22 x23 x24 x25 x26 x29 x30 x31 x35 x36 x37 x42 x43 x44 x45 x46 x47 x48 x49 x50 x51 x52 x53 x54 x55 x56 x57 x58 x59 x60 x61 x62 x63 x64 x65 x66 x67 x68 x69 y0 : AV} {h : EH} {k : AV → EH → Prop} (hb : h.get b = some (.loop false [AV.hide x0, .any, AV.hide x2, AV.hide x3, AV.hide x4, AV.hide x5, AV.hide x6, AV.hide x7, AV.hide x8, AV.hide x9, AV.hide x10, AV.hide x11, .any, .any, .any, .any, AV.hide x16, AV.hide x17, AV.hide x18, AV.hide x19, AV.hide x20, AV.hide x21, AV.hide x22, AV.hide x23, AV.hide x24, AV.hide x25, AV.hide x26, .any, .any, AV.hide x29, AV.hide x30, AV.hide x31, .any, .any, .any, AV.hide x35, AV.hide x36, AV.hide x37, .any, .any, .any, .any, AV.hide x42, AV.hide x43, AV.hide x44, AV.hide x45, AV.hide x46, AV.hide x47, AV.hide x48, AV.hide x49, AV.hide x50, AV.hide x51, AV.hide x52, AV.hide x53, AV.hide x54, AV.hide x55, AV.hide x56, AV.hide x57, AV.hide x58, AV.hide x59, AV.hide x60, AV.hide x61, AV.hide x62, AV.hide x63, AV.hide x64, AV.hide x65, AV.hide x66, AV.hide x67, AV.hide x68, AV.hide x69, .any, .any, .any, .any, .any, .any, .any, .any, .any, .any, .any, .any, .any, .any, .any, .any, .any, .any, .any, .any, .any, .any, .any, .any, .any, .any, .any, .any, .any, .any, .any, .any, .any, .any, .any, .any, .any, .any, .any] [70] (rfA Tryz.f19) (rfB Tryz.f19) none)) (e : WR19 W0 b x0 x2 x3 x4 x5 x6 x7 x8 x9 x10 x11 x16 x17 x18 x19 x20 x21 x22 x23 x24 x25 x26 x29 x30 x31 x35 x36 x37 x42 x43 x44 x45 x46 x47 x48 x49 x50 x51 x52 x53 x54 x55 x56 x57 x58 x59 x60 x61 x62 x63 x64 x65 x66 x67 x68 x69 y0 h k) : SYields Tryz.prog W0 b [y0] h k :=
  syields_of (hs := List.range 109) (ac := acOf Tryz.prog 109 (rfA Tryz.f19)) (bc := acOf Tryz.prog 109 (rfB Tryz.f19)) (ja := (jOf (acOf Tryz.prog 109 (rfA Tryz.f19)) []).1) (jb := (jOf (acOf Tryz.prog 109 (rfB Tryz.f19)) [none, none, none, some [92], some [93], none]).1) hb (by kernel_rfl) (by kernel_rfl) (by kernel_rfl) (by kernel_rfl) (by kernel_rfl) (by kernel_rfl) rfl ((by kernel_rfl : WR19 W0 b x0 x2 x3 x4 x5 x6 x7 x8 x9 x10 x11 x16 x17 x18 x19 x20 x21 x22 x23 x24 x25 x26 x29 x30 x31 x35 x36 x37 x42 x43 x44 x45 x46 x47 x48 x49 x50 x51 x52 x53 x54 x55 x56 x57 x58 x59 x60 x61 x62 x63 x64 x65 x66 x67 x68 x69 y0 h k = roundJ Tryz.prog W0 b (jOf (acOf Tryz.prog 109 (rfA Tryz.f19)) []).1 (jOf (acOf Tryz.prog 109 (rfB Tryz.f19)) [none, none, none, some [92], some [93], none]).1 (roundT [AV.hide x0, .any, AV.hide x2, AV.hide x3, AV.hide x4, AV.hide x5, AV.hide x6, AV.hide x7, AV.hide x8, AV.hide x9, AV.hide x10, AV.hide x11, .any, .any, .any, .any, AV.hide x16, AV.hide x17, AV.hide x18, AV.hide x19, AV.hide x20, AV.hide x21, AV.hide x22, AV.hide x23, AV.hide x24, AV.hide x25, AV.hide x26, .any, .any, AV.hide x29, AV.hide x30, AV.hide x31, .any, .any, .any, AV.hide x35, AV.hide x36, AV.hide x37, .any, .any, .any, .any, AV.hide x42, AV.hide x43, AV.hide x44, AV.hide x45, AV.hide x46, AV.hide x47, AV.hide x48, AV.hide x49, AV.hide x50, AV.hide x51, AV.hide x52, AV.hide x53, AV.hide x54, AV.hide x55, AV.hide x56, AV.hide x57, AV.hide x58, AV.hide x59, AV.hide x60, AV.hide x61, AV.hide x62, AV.hide x63, AV.hide x64, AV.hide x65, AV.hide x66, AV.hide x67, AV.hide x68, AV.hide x69, .any, .any, .any, .any, .any, .any, .any, .any, .any, .any, .any, .any, .any, .any, .any, .any, .any, .any, .any, .any, .any, .any, .any, .any, .any, .any, .any, .any, .any, .any, .any, .any, .any, .any, .any, .any, .any, .any, .any] [70] [y0]) h k).mp e)

end Go.Proofs.YtnpkhnlcpeebcaaGreatDoor
