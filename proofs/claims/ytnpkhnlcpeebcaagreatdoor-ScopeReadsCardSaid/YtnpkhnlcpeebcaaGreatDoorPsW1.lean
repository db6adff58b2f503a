/- What functions of the seat ask for, printed by program (gw.py). -/
import Derived.Test.YtnpkhnlcpeebcaaGreatDoorQs10
set_option linter.all false
set_option maxRecDepth 100000
namespace Go.Proofs.YtnpkhnlcpeebcaaGreatDoor
open Go Go.Qa Go.Proofs
/-- quadrat/quadratlaw08.ScopeReads -/
def W4 (W0 : World) (a0 : AV) (h : EH) (k : AV → EH → Prop) : Prop :=
 lnS a0 fun v1 =>
 bi .gtr v1 (.int .i64 3000) fun v2 =>
 cn v2 (
 ca W0 12 [] h fun v3 h1 =>
 retW [.v v3] h1 k)
 (ca W0 19 [a0] h fun v4 h2 =>
 ex v4 0 fun v5 =>
 ex v4 1 fun v6 =>
 ex v4 2 fun v7 =>
 ex v4 3 fun v8 =>
 ex v4 4 fun v9 =>
 ca W0 20 [a0] h2 fun v10 h3 =>
 ex v10 0 fun v11 =>
 ex v10 1 fun v12 =>
 ex v10 2 fun v13 =>
 ex v10 3 fun v14 =>
 ex v10 4 fun v15 =>
 bi .eql v5 v11 fun v16 =>
 ∃ J1 : AV → EH → Prop, (∀ v17 h4, J1 v17 h4 →
 pk v16 v17 (.bool false) fun v18 =>
 ∃ J2 : AV → EH → Prop, (∀ v19 h5, J2 v19 h5 →
 pk v18 v19 (.bool false) fun v20 =>
 ∃ J3 : AV → EH → Prop, (∀ v21 h6, J3 v21 h6 →
 pk v20 v21 (.bool false) fun v22 =>
 ∃ J4 : AV → EH → Prop, (∀ v23 h7, J4 v23 h7 →
 pk v22 v23 (.bool false) fun v24 =>
 ∃ J5 : AV → EH → Prop, (∀ v25 h8, J5 v25 h8 →
 pk v24 v25 (.bool false) fun v26 =>
 retW [.v v26] h8 k) ∧
 (cg v24 true (
 ca W0 12 [] h7 fun v27 h9 =>
 J5 v27 h9)
 (J5 (.pl undef) h7))) ∧
 (cg v22 true (
 bi .eql v9 v15 fun v28 =>
 J4 v28 h6)
 (J4 (.pl undef) h6))) ∧
 (cg v20 true (
 ca W0 21 [v8, v14] h5 fun v29 h10 =>
 J3 v29 h10)
 (J3 (.pl undef) h5))) ∧
 (cg v18 true (
 ca W0 13 [v7, v13] h4 fun v30 h11 =>
 J2 v30 h11)
 (J2 (.pl undef) h4))) ∧
 (cg v16 true (
 bi .eql v6 v12 fun v31 =>
 J1 v31 h3)
 (J1 (.pl undef) h3)))
theorem W4_ok {W0 : World} {a0 : AV} {h : EH} {k : AV → EH → Prop} (e : W4 W0 a0 h k) : SCalls Tryz.prog W0 4 [a0] h k :=
  jcalls_of 1 Tryz.func4 (by kernel_rfl) (hs := List.range 59) (ks := [none, none, none, none, none, none, none, some [39], some [44], some [49], some [54], some [57]]) (by kernel_rfl) rfl ((by kernel_rfl : W4 W0 a0 h k = sjF Tryz.prog W0 Tryz.f4 (List.range 59) [none, none, none, none, none, none, none, some [39], some [44], some [49], some [54], some [57]] [a0] h k).mp e)
/-- quadrat/quadratref08.SameTexts -/
def W13 (W0 : World) (a0 a1 : AV) (h : EH) (k : AV → EH → Prop) : Prop :=
 lnR a0 fun v1 =>
 lnR a1 fun v2 =>
 bi .neq v1 v2 fun v3 =>
 cn v3 (
 retW [.v (.bool false)] h k)
 (∃ (J1 : Nat → AV → EH → Prop) (n1 : Nat), J1 n1 (.int .i64 0) h ∧ ∀ n1 v4 h1, J1 n1 v4 h1 →
 lnR a0 fun v5 =>
 bi .lss v4 v5 fun v6 =>
 cn v6 (
 ia 1 a0 v4 fun v7 =>
 ld h1 v7 fun v8 =>
 ia 1 a1 v4 fun v9 =>
 ld h1 v9 fun v10 =>
 bi .neq v8 v10 fun v11 =>
 cn v11 (
 retW [.v (.bool false)] h1 k)
 (bi .add v4 (.int .i64 1) fun v12 =>
 ∃ m1, m1 < n1 ∧ J1 m1 v12 h1))
 (retW [.v (.bool true)] h1 k))
theorem W13_ok {W0 : World} {a0 a1 : AV} {h : EH} {k : AV → EH → Prop} (e : W13 W0 a0 a1 h k) : SCalls Tryz.prog W0 13 [a0, a1] h k :=
  jcalls_of 2 Tryz.func13 (by kernel_rfl) (hs := List.range 26) (ks := [none, none, none, none, none, none, some [5], none, none, none, none, none, none]) (by kernel_rfl) rfl ((by kernel_rfl : W13 W0 a0 a1 h k = sjF Tryz.prog W0 Tryz.f13 (List.range 26) [none, none, none, none, none, none, some [5], none, none, none, none, none, none] [a0, a1] h k).mp e)
/-- quadrat/quadratref08.SameEntities -/
def W21 (W0 : World) (a0 a1 : AV) (h : EH) (k : AV → EH → Prop) : Prop :=
 lnR a0 fun v1 =>
 lnR a1 fun v2 =>
 bi .neq v1 v2 fun v3 =>
 cn v3 (
 retW [.v (.bool false)] h k)
 (∃ (J1 : Nat → AV → EH → Prop) (n1 : Nat), J1 n1 (.int .i64 0) h ∧ ∀ n1 v4 h1, J1 n1 v4 h1 →
 lnR a0 fun v5 =>
 bi .lss v4 v5 fun v6 =>
 cn v6 (
 ia 5 a0 v4 fun v7 =>
 ldn 5 h1 v7 fun v8 =>
 ia 5 a1 v4 fun v9 =>
 ldn 5 h1 v9 fun v10 =>
 xW (.eqs (.st [.s, .s, .i, .i, .b]) true (.c v8) (.c v10)) h1 fun v11 =>
 cn v11 (
 retW [.v (.bool false)] h1 k)
 (bi .add v4 (.int .i64 1) fun v12 =>
 ∃ m1, m1 < n1 ∧ J1 m1 v12 h1))
 (retW [.v (.bool true)] h1 k))
theorem W21_ok {W0 : World} {a0 a1 : AV} {h : EH} {k : AV → EH → Prop} (e : W21 W0 a0 a1 h k) : SCalls Tryz.prog W0 21 [a0, a1] h k :=
  jcalls_of 2 Tryz.func21 (by kernel_rfl) (hs := List.range 26) (ks := [none, none, none, none, none, none, some [5], none, none, none, none, none, none]) (by kernel_rfl) rfl ((by kernel_rfl : W21 W0 a0 a1 h k = sjF Tryz.prog W0 Tryz.f21 (List.range 26) [none, none, none, none, none, none, some [5], none, none, none, none, none, none] [a0, a1] h k).mp e)
/-- quadrat/token.IsName -/
def W47 (W0 : World) (a0 : AV) (h : EH) (k : AV → EH → Prop) : Prop :=
 bi .neq a0 (.str []) fun v1 =>
 ∃ J1 : AV → EH → Prop, (∀ v2 h1, J1 v2 h1 →
 pk v1 v2 (.bool false) fun v3 =>
 ∃ J2 : AV → EH → Prop, (∀ v4 h2, J2 v4 h2 →
 pk v3 v4 (.bool false) fun v5 =>
 ∃ J3 : AV → EH → Prop, (∀ v6 h3, J3 v6 h3 →
 pk v5 v6 (.bool false) fun v7 =>
 ∃ J4 : AV → EH → Prop, (∀ v8 h4, J4 v8 h4 →
 pk v7 v8 (.bool false) fun v9 =>
 retW [.v v9] h4 k) ∧
 (cg v7 true (
 ca W0 115 [a0] h3 fun v10 h5 =>
 bi .eql a0 v10 fun v11 =>
 J4 v11 h5)
 (J4 (.pl undef) h3))) ∧
 (cg v5 true (
 ca W0 113 [a0, (.fn (.func 114) [] [])] h2 fun v12 h6 =>
 lnS a0 fun v13 =>
 bi .eql v12 v13 fun v14 =>
 J3 v14 h6)
 (J3 (.pl undef) h2))) ∧
 (cg v3 true (
 ix a0 (.int .i64 0) fun v15 =>
 ca W0 112 [v15] h1 fun v16 h7 =>
 J2 v16 h7)
 (J2 (.pl undef) h1))) ∧
 (cg v1 true (
 lnS a0 fun v17 =>
 bi .leq v17 (.int .i64 12) fun v18 =>
 J1 v18 h)
 (J1 (.pl undef) h))
theorem W47_ok {W0 : World} {a0 : AV} {h : EH} {k : AV → EH → Prop} (e : W47 W0 a0 h k) : SCalls Tryz.prog W0 47 [a0] h k :=
  jcalls_of 1 Tryz.func47 (by kernel_rfl) (hs := List.range 28) (ks := [none, none, some [8], some [13], some [20], some [26]]) (by kernel_rfl) rfl ((by kernel_rfl : W47 W0 a0 h k = sjF Tryz.prog W0 Tryz.f47 (List.range 28) [none, none, some [8], some [13], some [20], some [26]] [a0] h k).mp e)
/-- quadrat/token.isLetter -/
def W112 (W0 : World) (a0 : AV) (h : EH) (k : AV → EH → Prop) : Prop :=
 bi .geq a0 (.int .u8 97) fun v1 =>
 ∃ J1 : AV → EH → Prop, (∀ v2 h1, J1 v2 h1 →
 pk v1 v2 (.bool false) fun v3 =>
 ∃ J2 : AV → EH → Prop, (∀ v4 h2, J2 v4 h2 →
 pk v3 (.bool true) v4 fun v5 =>
 retW [.v v5] h2 k) ∧
 (cg v3 false (
 bi .geq a0 (.int .u8 65) fun v6 =>
 ∃ J3 : AV → EH → Prop, (∀ v7 h3, J3 v7 h3 →
 pk v6 v7 (.bool false) fun v8 =>
 J2 v8 h3) ∧
 (cg v6 true (
 bi .leq a0 (.int .u8 90) fun v9 =>
 J3 v9 h1)
 (J3 (.pl undef) h1)))
 (J2 (.pl undef) h1))) ∧
 (cg v1 true (
 bi .leq a0 (.int .u8 122) fun v10 =>
 J1 v10 h)
 (J1 (.pl undef) h))
theorem W112_ok {W0 : World} {a0 : AV} {h : EH} {k : AV → EH → Prop} (e : W112 W0 a0 h k) : SCalls Tryz.prog W0 112 [a0] h k :=
  jcalls_of 1 Tryz.func112 (by kernel_rfl) (hs := List.range 17) (ks := [none, none, some [7], some [14], some [15]]) (by kernel_rfl) rfl ((by kernel_rfl : W112 W0 a0 h k = sjF Tryz.prog W0 Tryz.f112 (List.range 17) [none, none, some [7], some [14], some [15]] [a0] h k).mp e)
/-- quadrat/token.run -/
def W113 (W0 : World) (a0 a1 : AV) (h : EH) (k : AV → EH → Prop) : Prop :=
 ∃ (J1 : Nat → AV → EH → Prop) (n1 : Nat), J1 n1 (.int .i64 0) h ∧ ∀ n1 v1 h1, J1 n1 v1 h1 →
 lnS a0 fun v2 =>
 bi .lss v1 v2 fun v3 =>
 ∃ J2 : AV → EH → Prop, (∀ v4 h2, J2 v4 h2 →
 pk v3 v4 (.bool false) fun v5 =>
 cn v5 (
 bi .add v1 (.int .i64 1) fun v6 =>
 ∃ m1, m1 < n1 ∧ J1 m1 v6 h2)
 (retW [.v v1] h2 k)) ∧
 (cg v3 true (
 ix a0 v1 fun v7 =>
 cf W0 a1 [v7] h1 fun v8 h3 =>
 J2 v8 h3)
 (J2 (.pl undef) h1))
theorem W113_ok {W0 : World} {a0 a1 : AV} {h : EH} {k : AV → EH → Prop} (e : W113 W0 a0 a1 h k) : SCalls Tryz.prog W0 113 [a0, a1] h k :=
  jcalls_of 2 Tryz.func113 (by kernel_rfl) (hs := List.range 20) (ks := [none, none, none, some [5], none, none, some [15], none]) (by kernel_rfl) rfl ((by kernel_rfl : W113 W0 a0 a1 h k = sjF Tryz.prog W0 Tryz.f113 (List.range 20) [none, none, none, some [5], none, none, some [15], none] [a0, a1] h k).mp e)
/-- quadrat/token.isPart -/
def W114 (W0 : World) (a0 : AV) (h : EH) (k : AV → EH → Prop) : Prop :=
 ca W0 112 [a0] h fun v1 h1 =>
 ∃ J1 : AV → EH → Prop, (∀ v2 h2, J1 v2 h2 →
 pk v1 (.bool true) v2 fun v3 =>
 ∃ J2 : AV → EH → Prop, (∀ v4 h3, J2 v4 h3 →
 pk v3 (.bool true) v4 fun v5 =>
 retW [.v v5] h3 k) ∧
 (cg v3 false (
 bi .eql a0 (.int .u8 95) fun v6 =>
 J2 v6 h2)
 (J2 (.pl undef) h2))) ∧
 (cg v1 false (
 ca W0 178 [a0] h1 fun v7 h4 =>
 J1 v7 h4)
 (J1 (.pl undef) h1))
theorem W114_ok {W0 : World} {a0 : AV} {h : EH} {k : AV → EH → Prop} (e : W114 W0 a0 h k) : SCalls Tryz.prog W0 114 [a0] h k :=
  jcalls_of 1 Tryz.func114 (by kernel_rfl) (hs := List.range 13) (ks := [none, none, some [7], some [11]]) (by kernel_rfl) rfl ((by kernel_rfl : W114 W0 a0 h k = sjF Tryz.prog W0 Tryz.f114 (List.range 13) [none, none, some [7], some [11]] [a0] h k).mp e)
/-- quadrat/token.small -/
def W115 (W0 : World) (a0 : AV) (h : EH) (k : AV → EH → Prop) : Prop :=
 eW (.s2b true (.c a0)) h fun v1 h1 =>
 lnR v1 fun v2 =>
 ∃ (J1 : Nat → AV → EH → Prop) (n1 : Nat), J1 n1 (.int .i64 0) h1 ∧ ∀ n1 v3 h2, J1 n1 v3 h2 →
 bi .lss v3 v2 fun v4 =>
 cn v4 (
 ∃ J2 : EH → Prop, (∀ h3, J2 h3 →
 bi .add v3 (.int .i64 1) fun v5 =>
 ∃ m1, m1 < n1 ∧ J1 m1 v5 h3) ∧
 (ia 1 v1 v3 fun v6 =>
 ld h2 v6 fun v7 =>
 bi .geq v7 (.int .u8 65) fun v8 =>
 ∃ J3 : AV → EH → Prop, (∀ v9 h4, J3 v9 h4 →
 pk v8 v9 (.bool false) fun v10 =>
 cn v10 (
 bi .sub v7 (.int .u8 65) fun v11 =>
 bi .add v11 (.int .u8 97) fun v12 =>
 ia 1 v1 v3 fun v13 =>
 st 1 v13 v12 h4 fun v14 h5 =>
 J2 h5)
 (J2 h4)) ∧
 (cg v8 true (
 bi .leq v7 (.int .u8 90) fun v15 =>
 J3 v15 h2)
 (J3 (.pl undef) h2))))
 (xW (.b2s (.c v1)) h2 fun v16 =>
 retW [.v v16] h2 k)
theorem W115_ok {W0 : World} {a0 : AV} {h : EH} {k : AV → EH → Prop} (e : W115 W0 a0 h k) : SCalls Tryz.prog W0 115 [a0] h k :=
  jcalls_of 1 Tryz.func115 (by kernel_rfl) (hs := List.range 30) (ks := [none, none, none, none, some [10], none, none, some [], none, none, some [19], none]) (by kernel_rfl) rfl ((by kernel_rfl : W115 W0 a0 h k = sjF Tryz.prog W0 Tryz.f115 (List.range 30) [none, none, none, none, some [10], none, none, some [], none, none, some [19], none] [a0] h k).mp e)
/-- quadrat/token.isDigit -/
def W178 (W0 : World) (a0 : AV) (h : EH) (k : AV → EH → Prop) : Prop :=
 bi .geq a0 (.int .u8 48) fun v1 =>
 ∃ J1 : AV → EH → Prop, (∀ v2 h1, J1 v2 h1 →
 pk v1 v2 (.bool false) fun v3 =>
 retW [.v v3] h1 k) ∧
 (cg v1 true (
 bi .leq a0 (.int .u8 57) fun v4 =>
 J1 v4 h)
 (J1 (.pl undef) h))
theorem W178_ok {W0 : World} {a0 : AV} {h : EH} {k : AV → EH → Prop} (e : W178 W0 a0 h k) : SCalls Tryz.prog W0 178 [a0] h k :=
  jcalls_of 1 Tryz.func178 (by kernel_rfl) (hs := List.range 9) (ks := [none, none, some [7]]) (by kernel_rfl) rfl ((by kernel_rfl : W178 W0 a0 h k = sjF Tryz.prog W0 Tryz.f178 (List.range 9) [none, none, some [7]] [a0] h k).mp e)
/-- quadrat/quadratref04.isInner -/
def W122 (W0 : World) (a0 : AV) (h : EH) (k : AV → EH → Prop) : Prop :=
 ca W0 182 [a0] h fun v1 h1 =>
 ∃ J1 : AV → EH → Prop, (∀ v2 h2, J1 v2 h2 →
 pk v1 (.bool true) v2 fun v3 =>
 ∃ J2 : AV → EH → Prop, (∀ v4 h3, J2 v4 h3 →
 pk v3 (.bool true) v4 fun v5 =>
 retW [.v v5] h3 k) ∧
 (cg v3 false (
 bi .eql a0 (.int .u8 95) fun v6 =>
 J2 v6 h2)
 (J2 (.pl undef) h2))) ∧
 (cg v1 false (
 ca W0 183 [a0] h1 fun v7 h4 =>
 J1 v7 h4)
 (J1 (.pl undef) h1))
theorem W122_ok {W0 : World} {a0 : AV} {h : EH} {k : AV → EH → Prop} (e : W122 W0 a0 h k) : SCalls Tryz.prog W0 122 [a0] h k :=
  jcalls_of 1 Tryz.func122 (by kernel_rfl) (hs := List.range 13) (ks := [none, none, some [7], some [11]]) (by kernel_rfl) rfl ((by kernel_rfl : W122 W0 a0 h k = sjF Tryz.prog W0 Tryz.f122 (List.range 13) [none, none, some [7], some [11]] [a0] h k).mp e)
/-- quadrat/quadratref04.isLetter -/
def W182 (W0 : World) (a0 : AV) (h : EH) (k : AV → EH → Prop) : Prop :=
 bi .geq a0 (.int .u8 97) fun v1 =>
 ∃ J1 : AV → EH → Prop, (∀ v2 h1, J1 v2 h1 →
 pk v1 v2 (.bool false) fun v3 =>
 ∃ J2 : AV → EH → Prop, (∀ v4 h2, J2 v4 h2 →
 pk v3 (.bool true) v4 fun v5 =>
 retW [.v v5] h2 k) ∧
 (cg v3 false (
 bi .geq a0 (.int .u8 65) fun v6 =>
 ∃ J3 : AV → EH → Prop, (∀ v7 h3, J3 v7 h3 →
 pk v6 v7 (.bool false) fun v8 =>
 J2 v8 h3) ∧
 (cg v6 true (
 bi .leq a0 (.int .u8 90) fun v9 =>
 J3 v9 h1)
 (J3 (.pl undef) h1)))
 (J2 (.pl undef) h1))) ∧
 (cg v1 true (
 bi .leq a0 (.int .u8 122) fun v10 =>
 J1 v10 h)
 (J1 (.pl undef) h))
theorem W182_ok {W0 : World} {a0 : AV} {h : EH} {k : AV → EH → Prop} (e : W182 W0 a0 h k) : SCalls Tryz.prog W0 182 [a0] h k :=
  jcalls_of 1 Tryz.func182 (by kernel_rfl) (hs := List.range 17) (ks := [none, none, some [7], some [14], some [15]]) (by kernel_rfl) rfl ((by kernel_rfl : W182 W0 a0 h k = sjF Tryz.prog W0 Tryz.f182 (List.range 17) [none, none, some [7], some [14], some [15]] [a0] h k).mp e)
/-- quadrat/quadratref04.isDigit -/
def W183 (W0 : World) (a0 : AV) (h : EH) (k : AV → EH → Prop) : Prop :=
 bi .geq a0 (.int .u8 48) fun v1 =>
 ∃ J1 : AV → EH → Prop, (∀ v2 h1, J1 v2 h1 →
 pk v1 v2 (.bool false) fun v3 =>
 retW [.v v3] h1 k) ∧
 (cg v1 true (
 bi .leq a0 (.int .u8 57) fun v4 =>
 J1 v4 h)
 (J1 (.pl undef) h))
theorem W183_ok {W0 : World} {a0 : AV} {h : EH} {k : AV → EH → Prop} (e : W183 W0 a0 h k) : SCalls Tryz.prog W0 183 [a0] h k :=
  jcalls_of 1 Tryz.func183 (by kernel_rfl) (hs := List.range 9) (ks := [none, none, some [7]]) (by kernel_rfl) rfl ((by kernel_rfl : W183 W0 a0 h k = sjF Tryz.prog W0 Tryz.f183 (List.range 9) [none, none, some [7]] [a0] h k).mp e)
/-- quadrat/quadratref04.IsName -/
def W54 (W0 : World) (a0 : AV) (h : EH) (k : AV → EH → Prop) : Prop :=
 bi .eql a0 (.str []) fun v1 =>
 ∃ J1 : AV → EH → Prop, (∀ v2 h1, J1 v2 h1 →
 pk v1 (.bool true) v2 fun v3 =>
 ∃ J2 : AV → EH → Prop, (∀ v4 h2, J2 v4 h2 →
 pk v3 (.bool true) v4 fun v5 =>
 ∃ J3 : AV → EH → Prop, (∀ v6 h3, J3 v6 h3 →
 pk v5 (.bool true) v6 fun v7 =>
 cn v7 (
 retW [.v (.bool false)] h3 k)
 (∃ (J4 : Nat → AV → EH → Prop) (n1 : Nat), J4 n1 (.int .i64 0) h3 ∧ ∀ n1 v8 h4, J4 n1 v8 h4 →
 lnS a0 fun v9 =>
 bi .lss v8 v9 fun v10 =>
 cn v10 (
 ix a0 v8 fun v11 =>
 ca W0 122 [v11] h4 fun v12 h5 =>
 pW (.un .not (.c v12)) fun v13 =>
 ∃ J5 : AV → EH → Prop, (∀ v14 h6, J5 v14 h6 →
 pk v13 (.bool true) v14 fun v15 =>
 cn v15 (
 retW [.v (.bool false)] h6 k)
 (bi .add v8 (.int .i64 1) fun v16 =>
 ∃ m1, m1 < n1 ∧ J4 m1 v16 h6)) ∧
 (cg v13 false (
 ix a0 v8 fun v17 =>
 bi .geq v17 (.int .u8 65) fun v18 =>
 ∃ J6 : AV → EH → Prop, (∀ v19 h7, J6 v19 h7 →
 pk v18 v19 (.bool false) fun v20 =>
 J5 v20 h7) ∧
 (cg v18 true (
 ix a0 v8 fun v21 =>
 bi .leq v21 (.int .u8 90) fun v22 =>
 J6 v22 h5)
 (J6 (.pl undef) h5)))
 (J5 (.pl undef) h5)))
 (retW [.v (.bool true)] h4 k))) ∧
 (cg v5 false (
 ix a0 (.int .i64 0) fun v23 =>
 bi .gtr v23 (.int .u8 122) fun v24 =>
 J3 v24 h2)
 (J3 (.pl undef) h2))) ∧
 (cg v3 false (
 ix a0 (.int .i64 0) fun v25 =>
 bi .lss v25 (.int .u8 97) fun v26 =>
 J2 v26 h1)
 (J2 (.pl undef) h1))) ∧
 (cg v1 false (
 lnS a0 fun v27 =>
 bi .gtr v27 (.int .i64 12) fun v28 =>
 J1 v28 h)
 (J1 (.pl undef) h))
theorem W54_ok {W0 : World} {a0 : AV} {h : EH} {k : AV → EH → Prop} (e : W54 W0 a0 h k) : SCalls Tryz.prog W0 54 [a0] h k :=
  jcalls_of 1 Tryz.func54 (by kernel_rfl) (hs := List.range 44) (ks := [none, none, none, some [9], some [14], some [19], none, none, none, some [3], none, none, none, none, some [41], some [42], none, none]) (by kernel_rfl) rfl ((by kernel_rfl : W54 W0 a0 h k = sjF Tryz.prog W0 Tryz.f54 (List.range 44) [none, none, none, some [9], some [14], some [19], none, none, none, some [3], none, none, none, none, some [41], some [42], none, none] [a0] h k).mp e)
/-- quadrat/scope.number -/
def W48 (W0 : World) (a0 a1 : AV) (h : EH) (k : AV → EH → Prop) : Prop :=
 ca W0 116 [a0] h fun v1 h1 =>
 ex v1 0 fun v2 =>
 ex v1 1 fun v3 =>
 xW (.eqs .ifc false (.c v3) (.c (.pl .nilIface))) h1 fun v4 =>
 ∃ J1 : AV → EH → Prop, (∀ v5 h2, J1 v5 h2 →
 pk v4 v5 (.bool false) fun v6 =>
 ∃ J2 : AV → EH → Prop, (∀ v7 h3, J2 v7 h3 →
 pk v6 v7 (.bool false) fun v8 =>
 ∃ J3 : AV → EH → Prop, (∀ v9 h4, J3 v9 h4 →
 pk v8 v9 (.bool false) fun v10 =>
 retW [.v v2, .v v10] h4 k) ∧
 (cg v8 true (
 bi .leq v2 a1 fun v11 =>
 J3 v11 h3)
 (J3 (.pl undef) h3))) ∧
 (cg v6 true (
 bi .geq v2 (.int .i64 0) fun v12 =>
 J2 v12 h2)
 (J2 (.pl undef) h2))) ∧
 (cg v4 true (
 ca W0 56 [v2] h1 fun v13 h5 =>
 bi .eql v13 a0 fun v14 =>
 J1 v14 h5)
 (J1 (.pl undef) h1))
theorem W48_ok {W0 : World} {a0 a1 : AV} {h : EH} {k : AV → EH → Prop} (e : W48 W0 a0 a1 h k) : SCalls Tryz.prog W0 48 [a0, a1] h k :=
  jcalls_of 2 Tryz.func48 (by kernel_rfl) (hs := List.range 31) (ks := [none, none, none, some [20], some [24], some [29]]) (by kernel_rfl) rfl ((by kernel_rfl : W48 W0 a0 a1 h k = sjF Tryz.prog W0 Tryz.f48 (List.range 31) [none, none, none, some [20], some [24], some [29]] [a0, a1] h k).mp e)
/-- quadrat/scope.version -/
def W49 (W0 : World) (a0 : AV) (h : EH) (k : AV → EH → Prop) : Prop :=
 eW (.s2b true (.c a0)) h fun v1 h1 =>
 lnR v1 fun v2 =>
 ∃ (J1 : Nat → AV → AV → EH → Prop) (n1 : Nat), J1 n1 (.int .i64 0) (.int .i64 0) h1 ∧ ∀ n1 v3 v4 h2, J1 n1 v3 v4 h2 →
 bi .lss v4 v2 fun v5 =>
 cn v5 (
 ia 1 v1 v4 fun v6 =>
 ld h2 v6 fun v7 =>
 pW (.i2i .i64 (.c v7)) fun v8 =>
 bi .add v4 (.int .i64 1) fun v9 =>
 bi .mul v8 v9 fun v10 =>
 bi .add v3 v10 fun v11 =>
 bi .rem v11 (.int .i64 65521) fun v12 =>
 bi .add v4 (.int .i64 1) fun v13 =>
 ∃ m1, m1 < n1 ∧ J1 m1 v12 v13 h2)
 (retW [.v v3] h2 k)
theorem W49_ok {W0 : World} {a0 : AV} {h : EH} {k : AV → EH → Prop} (e : W49 W0 a0 h k) : SCalls Tryz.prog W0 49 [a0] h k :=
  jcalls_of 1 Tryz.func49 (by kernel_rfl) (hs := List.range 24) (ks := [none, none, none, none, some [3, 9], none, none, none, none, none]) (by kernel_rfl) rfl ((by kernel_rfl : W49 W0 a0 h k = sjF Tryz.prog W0 Tryz.f49 (List.range 24) [none, none, none, none, some [3, 9], none, none, none, none, none] [a0] h k).mp e)
/-- quadrat/quadratref08.version -/
def W55 (W0 : World) (a0 : AV) (h : EH) (k : AV → EH → Prop) : Prop :=
 ∃ (J1 : Nat → AV → AV → EH → Prop) (n1 : Nat), J1 n1 (.int .i64 0) (.int .i64 0) h ∧ ∀ n1 v1 v2 h1, J1 n1 v1 v2 h1 →
 lnS a0 fun v3 =>
 bi .lss v2 v3 fun v4 =>
 cn v4 (
 ix a0 v2 fun v5 =>
 pW (.i2i .i64 (.c v5)) fun v6 =>
 bi .add v2 (.int .i64 1) fun v7 =>
 bi .rem v7 (.int .i64 65521) fun v8 =>
 bi .mul v6 v8 fun v9 =>
 bi .add v1 v9 fun v10 =>
 bi .rem v10 (.int .i64 65521) fun v11 =>
 bi .add v2 (.int .i64 1) fun v12 =>
 ∃ m1, m1 < n1 ∧ J1 m1 v11 v12 h1)
 (retW [.v v1] h1 k)
theorem W55_ok {W0 : World} {a0 : AV} {h : EH} {k : AV → EH → Prop} (e : W55 W0 a0 h k) : SCalls Tryz.prog W0 55 [a0] h k :=
  jcalls_of 1 Tryz.func55 (by kernel_rfl) (hs := List.range 23) (ks := [none, none, none, none, some [3, 4], none, none, none, none]) (by kernel_rfl) rfl ((by kernel_rfl : W55 W0 a0 h k = sjF Tryz.prog W0 Tryz.f55 (List.range 23) [none, none, none, none, some [3, 4], none, none, none, none] [a0] h k).mp e)
/-- quadrat/scope.entity -/
def W52 (W0 : World) (a0 : AV) (h : EH) (k : AV → EH → Prop) : Prop :=
 al [(.str []), (.str []), (.int .i64 0), (.int .i64 0), (.bool false)] h fun v1 h1 =>
 ca W0 46 [a0, (.str [32])] h1 fun v2 h2 =>
 lnR v2 fun v3 =>
 bi .neq v3 (.int .i64 6) fun v4 =>
 ∃ J1 : AV → EH → Prop, (∀ v5 h3, J1 v5 h3 →
 pk v4 (.bool true) v5 fun v6 =>
 ∃ J2 : AV → EH → Prop, (∀ v7 h4, J2 v7 h4 →
 pk v6 (.bool true) v7 fun v8 =>
 ∃ J3 : AV → EH → Prop, (∀ v9 h5, J3 v9 h5 →
 pk v8 (.bool true) v9 fun v10 =>
 cn v10 (
 pW (.build [(.str []), (.str []), (.int .i64 0), (.int .i64 0), (.bool false)] []) fun v11 =>
 st 5 v1 v11 h5 fun v12 h6 =>
 retW [.v (.str []), .c (some 5) v1, .v (.bool false)] h6 k)
 (ia 1 v2 (.int .i64 3) fun v13 =>
 ld h5 v13 fun v14 =>
 ca W0 48 [v14, (.int .i64 4)] h5 fun v15 h7 =>
 ex v15 0 fun v16 =>
 ex v15 1 fun v17 =>
 ia 1 v2 (.int .i64 4) fun v18 =>
 ld h7 v18 fun v19 =>
 ca W0 48 [v19, (.int .i64 3)] h7 fun v20 h8 =>
 ex v20 0 fun v21 =>
 ex v20 1 fun v22 =>
 ia 1 v2 (.int .i64 5) fun v23 =>
 ld h8 v23 fun v24 =>
 ca W0 48 [v24, (.int .i64 1)] h8 fun v25 h9 =>
 ex v25 0 fun v26 =>
 ex v25 1 fun v27 =>
 ia 1 v2 (.int .i64 0) fun v28 =>
 ld h9 v28 fun v29 =>
 ia 1 v2 (.int .i64 1) fun v30 =>
 ld h9 v30 fun v31 =>
 ia 1 v2 (.int .i64 2) fun v32 =>
 ld h9 v32 fun v33 =>
 bi .eql v26 (.int .i64 1) fun v34 =>
 pW (.build [(.str []), (.str []), (.int .i64 0), (.int .i64 0), (.bool false)] [(0, (1, (.c v31))), (1, (1, (.c v33))), (2, (1, (.c v16))), (3, (1, (.c v21))), (4, (1, (.c v34)))]) fun v35 =>
 ∃ J4 : AV → EH → Prop, (∀ v36 h10, J4 v36 h10 →
 pk v17 v36 (.bool false) fun v37 =>
 ∃ J5 : AV → EH → Prop, (∀ v38 h11, J5 v38 h11 →
 pk v37 v38 (.bool false) fun v39 =>
 st 5 v1 v35 h11 fun v40 h12 =>
 retW [.v v29, .c (some 5) v1, .v v39] h12 k) ∧
 (cg v37 true (
 J5 v27 h10)
 (J5 (.pl undef) h10))) ∧
 (cg v17 true (
 J4 v22 h9)
 (J4 (.pl undef) h9)))) ∧
 (cg v8 false (
 ia 1 v2 (.int .i64 2) fun v41 =>
 ld h4 v41 fun v42 =>
 ca W0 47 [v42] h4 fun v43 h13 =>
 pW (.un .not (.c v43)) fun v44 =>
 J3 v44 h13)
 (J3 (.pl undef) h4))) ∧
 (cg v6 false (
 ia 1 v2 (.int .i64 1) fun v45 =>
 ld h3 v45 fun v46 =>
 ca W0 120 [v46] h3 fun v47 h14 =>
 pW (.un .not (.c v47)) fun v48 =>
 J2 v48 h14)
 (J2 (.pl undef) h3))) ∧
 (cg v4 false (
 ia 1 v2 (.int .i64 0) fun v49 =>
 ld h2 v49 fun v50 =>
 ca W0 47 [v50] h2 fun v51 h15 =>
 pW (.un .not (.c v51)) fun v52 =>
 J1 v52 h15)
 (J1 (.pl undef) h2))
theorem W52_ok {W0 : World} {a0 : AV} {h : EH} {k : AV → EH → Prop} (e : W52 W0 a0 h k) : SCalls Tryz.prog W0 52 [a0] h k :=
  jcalls_of 1 Tryz.func52 (by kernel_rfl) (hs := List.range 81) (ks := [none, none, none, none, some [22], some [29], some [36], none, none, none, none, none]) (by kernel_rfl) rfl ((by kernel_rfl : W52 W0 a0 h k = sjF Tryz.prog W0 Tryz.f52 (List.range 81) [none, none, none, none, some [22], some [29], some [36], none, none, none, none, none] [a0] h k).mp e)
/-- quadrat/quadratref08.entity -/
def W57 (W0 : World) (a0 : AV) (h : EH) (k : AV → EH → Prop) : Prop :=
 al [(.str []), (.str []), (.int .i64 0), (.int .i64 0), (.bool false)] h fun v1 h1 =>
 ca W0 46 [a0, (.str [32])] h1 fun v2 h2 =>
 lnR v2 fun v3 =>
 bi .neq v3 (.int .i64 6) fun v4 =>
 ∃ J1 : AV → EH → Prop, (∀ v5 h3, J1 v5 h3 →
 pk v4 (.bool true) v5 fun v6 =>
 ∃ J2 : AV → EH → Prop, (∀ v7 h4, J2 v7 h4 →
 pk v6 (.bool true) v7 fun v8 =>
 ∃ J3 : AV → EH → Prop, (∀ v9 h5, J3 v9 h5 →
 pk v8 (.bool true) v9 fun v10 =>
 cn v10 (
 pW (.build [(.str []), (.str []), (.int .i64 0), (.int .i64 0), (.bool false)] []) fun v11 =>
 st 5 v1 v11 h5 fun v12 h6 =>
 retW [.v (.str []), .c (some 5) v1, .v (.bool false)] h6 k)
 (ia 1 v2 (.int .i64 3) fun v13 =>
 ld h5 v13 fun v14 =>
 ca W0 125 [v14, (.int .i64 4)] h5 fun v15 h7 =>
 ex v15 0 fun v16 =>
 ex v15 1 fun v17 =>
 ia 1 v2 (.int .i64 4) fun v18 =>
 ld h7 v18 fun v19 =>
 ca W0 125 [v19, (.int .i64 3)] h7 fun v20 h8 =>
 ex v20 0 fun v21 =>
 ex v20 1 fun v22 =>
 ia 1 v2 (.int .i64 5) fun v23 =>
 ld h8 v23 fun v24 =>
 ca W0 125 [v24, (.int .i64 1)] h8 fun v25 h9 =>
 ex v25 0 fun v26 =>
 ex v25 1 fun v27 =>
 ia 1 v2 (.int .i64 0) fun v28 =>
 ld h9 v28 fun v29 =>
 ia 1 v2 (.int .i64 1) fun v30 =>
 ld h9 v30 fun v31 =>
 ia 1 v2 (.int .i64 2) fun v32 =>
 ld h9 v32 fun v33 =>
 bi .eql v26 (.int .i64 1) fun v34 =>
 pW (.build [(.str []), (.str []), (.int .i64 0), (.int .i64 0), (.bool false)] [(0, (1, (.c v31))), (1, (1, (.c v33))), (2, (1, (.c v16))), (3, (1, (.c v21))), (4, (1, (.c v34)))]) fun v35 =>
 ∃ J4 : AV → EH → Prop, (∀ v36 h10, J4 v36 h10 →
 pk v17 v36 (.bool false) fun v37 =>
 ∃ J5 : AV → EH → Prop, (∀ v38 h11, J5 v38 h11 →
 pk v37 v38 (.bool false) fun v39 =>
 st 5 v1 v35 h11 fun v40 h12 =>
 retW [.v v29, .c (some 5) v1, .v v39] h12 k) ∧
 (cg v37 true (
 J5 v27 h10)
 (J5 (.pl undef) h10))) ∧
 (cg v17 true (
 J4 v22 h9)
 (J4 (.pl undef) h9)))) ∧
 (cg v8 false (
 ia 1 v2 (.int .i64 2) fun v41 =>
 ld h4 v41 fun v42 =>
 ca W0 54 [v42] h4 fun v43 h13 =>
 pW (.un .not (.c v43)) fun v44 =>
 J3 v44 h13)
 (J3 (.pl undef) h4))) ∧
 (cg v6 false (
 ia 1 v2 (.int .i64 1) fun v45 =>
 ld h3 v45 fun v46 =>
 ca W0 124 [v46] h3 fun v47 h14 =>
 pW (.un .not (.c v47)) fun v48 =>
 J2 v48 h14)
 (J2 (.pl undef) h3))) ∧
 (cg v4 false (
 ia 1 v2 (.int .i64 0) fun v49 =>
 ld h2 v49 fun v50 =>
 ca W0 54 [v50] h2 fun v51 h15 =>
 pW (.un .not (.c v51)) fun v52 =>
 J1 v52 h15)
 (J1 (.pl undef) h2))
theorem W57_ok {W0 : World} {a0 : AV} {h : EH} {k : AV → EH → Prop} (e : W57 W0 a0 h k) : SCalls Tryz.prog W0 57 [a0] h k :=
  jcalls_of 1 Tryz.func57 (by kernel_rfl) (hs := List.range 81) (ks := [none, none, none, none, some [22], some [29], some [36], none, none, none, none, none]) (by kernel_rfl) rfl ((by kernel_rfl : W57 W0 a0 h k = sjF Tryz.prog W0 Tryz.f57 (List.range 81) [none, none, none, none, some [22], some [29], some [36], none, none, none, none, none] [a0] h k).mp e)
/-- quadrat/scope.isPath -/
def W120 (W0 : World) (a0 : AV) (h : EH) (k : AV → EH → Prop) : Prop :=
 ca W0 45 [a0, (.str [37])] h fun v1 h1 =>
 ex v1 0 fun v2 =>
 ex v1 1 fun v3 =>
 ex v1 2 fun v4 =>
 ca W0 47 [v2] h1 fun v5 h2 =>
 ∃ J1 : AV → EH → Prop, (∀ v6 h3, J1 v6 h3 →
 pk v5 v6 (.bool false) fun v7 =>
 retW [.v v7] h3 k) ∧
 (cg v5 true (
 pW (.un .not (.c v4)) fun v8 =>
 ∃ J2 : AV → EH → Prop, (∀ v9 h4, J2 v9 h4 →
 pk v8 (.bool true) v9 fun v10 =>
 J1 v10 h4) ∧
 (cg v8 false (
 ca W0 47 [v3] h2 fun v11 h5 =>
 J2 v11 h5)
 (J2 (.pl undef) h2)))
 (J1 (.pl undef) h2))
theorem W120_ok {W0 : World} {a0 : AV} {h : EH} {k : AV → EH → Prop} (e : W120 W0 a0 h k) : SCalls Tryz.prog W0 120 [a0] h k :=
  jcalls_of 1 Tryz.func120 (by kernel_rfl) (hs := List.range 22) (ks := [none, none, none, some [19], some [20]]) (by kernel_rfl) rfl ((by kernel_rfl : W120 W0 a0 h k = sjF Tryz.prog W0 Tryz.f120 (List.range 22) [none, none, none, some [19], some [20]] [a0] h k).mp e)
/-- quadrat/quadratref08.isPath -/
def W124 (W0 : World) (a0 : AV) (h : EH) (k : AV → EH → Prop) : Prop :=
 ca W0 46 [a0, (.str [37])] h fun v1 h1 =>
 ∃ (J1 : Nat → AV → EH → Prop) (n1 : Nat), J1 n1 (.int .i64 0) h1 ∧ ∀ n1 v2 h2, J1 n1 v2 h2 →
 lnR v1 fun v3 =>
 bi .lss v2 v3 fun v4 =>
 cn v4 (
 ia 1 v1 v2 fun v5 =>
 ld h2 v5 fun v6 =>
 ca W0 54 [v6] h2 fun v7 h3 =>
 pW (.un .not (.c v7)) fun v8 =>
 cn v8 (
 retW [.v (.bool false)] h3 k)
 (bi .add v2 (.int .i64 1) fun v9 =>
 ∃ m1, m1 < n1 ∧ J1 m1 v9 h3))
 (lnR v1 fun v10 =>
 bi .leq v10 (.int .i64 2) fun v11 =>
 retW [.v v11] h2 k)
theorem W124_ok {W0 : World} {a0 : AV} {h : EH} {k : AV → EH → Prop} (e : W124 W0 a0 h k) : SCalls Tryz.prog W0 124 [a0] h k :=
  jcalls_of 1 Tryz.func124 (by kernel_rfl) (hs := List.range 22) (ks := [none, none, none, none, some [4], none, none, none, none, none, none]) (by kernel_rfl) rfl ((by kernel_rfl : W124 W0 a0 h k = sjF Tryz.prog W0 Tryz.f124 (List.range 22) [none, none, none, none, some [4], none, none, none, none, none, none] [a0] h k).mp e)
/-- quadrat/quadratref08.small -/
def W125 (W0 : World) (a0 a1 : AV) (h : EH) (k : AV → EH → Prop) : Prop :=
 ∃ (J1 : Nat → AV → EH → Prop) (n1 : Nat), J1 n1 (.int .i64 0) h ∧ ∀ n1 v1 h1, J1 n1 v1 h1 →
 bi .leq v1 a1 fun v2 =>
 cn v2 (
 ca W0 56 [v1] h1 fun v3 h2 =>
 bi .eql v3 a0 fun v4 =>
 cn v4 (
 retW [.v v1, .v (.bool true)] h2 k)
 (bi .add v1 (.int .i64 1) fun v5 =>
 ∃ m1, m1 < n1 ∧ J1 m1 v5 h2))
 (retW [.v (.int .i64 0), .v (.bool false)] h1 k)
theorem W125_ok {W0 : World} {a0 a1 : AV} {h : EH} {k : AV → EH → Prop} (e : W125 W0 a0 a1 h k) : SCalls Tryz.prog W0 125 [a0, a1] h k :=
  jcalls_of 2 Tryz.func125 (by kernel_rfl) (hs := List.range 17) (ks := [none, none, none, some [6], none, none, none, none, none, none]) (by kernel_rfl) rfl ((by kernel_rfl : W125 W0 a0 a1 h k = sjF Tryz.prog W0 Tryz.f125 (List.range 17) [none, none, none, some [6], none, none, none, none, none, none] [a0, a1] h k).mp e)
/-- strings.Lines -/
def W51 (W0 : World) (a0 : AV) (h : EH) (k : AV → EH → Prop) : Prop :=
 eW (.box true (.c a0)) h fun v1 h1 =>
 pW (.mkfn (.func 118) [] [(.c v1)]) fun v2 =>
 retW [.v v2] h1 k
theorem W51_ok {W0 : World} {a0 : AV} {h : EH} {k : AV → EH → Prop} (e : W51 W0 a0 h k) : SCalls Tryz.prog W0 51 [a0] h k :=
  jcalls_of 1 Tryz.func51 (by kernel_rfl) (hs := List.range 4) (ks := [none, none]) (by kernel_rfl) rfl ((by kernel_rfl : W51 W0 a0 h k = sjF Tryz.prog W0 Tryz.f51 (List.range 4) [none, none] [a0] h k).mp e)
/-- strings.Lines$1 -/
def W118 (W0 : World) (a0 a1 : AV) (h : EH) (k : AV → EH → Prop) : Prop :=
 ∃ (J1 : Nat → EH → Prop) (n1 : Nat), J1 n1 h ∧ ∀ n1 h1, J1 n1 h1 →
 ld h1 a1 fun v1 =>
 lnS v1 fun v2 =>
 bi .gtr v2 (.int .i64 0) fun v3 =>
 cn v3 (
 ∃ J2 : AV → EH → Prop, (∀ v4 h2, J2 v4 h2 →
 cf W0 a0 [v4] h2 fun v5 h3 =>
 pW (.un .not (.c v5)) fun v6 =>
 cn v6 (
 retW [] h3 k)
 (∃ m1, m1 < n1 ∧ J1 m1 h3)) ∧
 (ld h1 a1 fun v7 =>
 ca W0 119 [v7, (.int .u8 10)] h1 fun v8 h4 =>
 bi .geq v8 (.int .i64 0) fun v9 =>
 cn v9 (
 ld h4 a1 fun v10 =>
 bi .add v8 (.int .i64 1) fun v11 =>
 pW (.slS (.c v10) none (some (.c v11))) fun v12 =>
 ld h4 a1 fun v13 =>
 bi .add v8 (.int .i64 1) fun v14 =>
 pW (.slS (.c v13) (some (.c v14)) none) fun v15 =>
 st 1 a1 v15 h4 fun v16 h5 =>
 J2 v12 h5)
 (ld h4 a1 fun v17 =>
 st 1 a1 (.str []) h4 fun v18 h6 =>
 J2 v17 h6)))
 (retW [] h1 k)
theorem W118_ok {W0 : World} {a0 a1 : AV} {h : EH} {k : AV → EH → Prop} (e : W118 W0 a0 a1 h k) : SCalls Tryz.prog W0 118 [a0, a1] h k :=
  jcalls_of 2 Tryz.func118 (by kernel_rfl) (hs := List.range 25) (ks := [some [], none, none, none, some [3], none, none, none]) (by kernel_rfl) rfl ((by kernel_rfl : W118 W0 a0 a1 h k = sjF Tryz.prog W0 Tryz.f118 (List.range 25) [some [], none, none, none, some [3], none, none, none] [a0, a1] h k).mp e)
/-- quadrat/quadratref08.Read -/
def W20 (W0 : World) (a0 : AV) (h : EH) (k : AV → EH → Prop) : Prop :=
 ca W0 46 [a0, (.str [10])] h fun v1 h1 =>
 lnR v1 fun v2 =>
 bi .lss v2 (.int .i64 2) fun v3 =>
 ∃ J1 : AV → EH → Prop, (∀ v4 h2, J1 v4 h2 →
 pk v3 (.bool true) v4 fun v5 =>
 cn v5 (
 retW [.v (.str []), .v (.int .i64 0), .v (.pl (.slice none 0 0)), .v (.pl (.slice none 0 0)), .v (.int .i64 3)] h2 k)
 (ia 1 v1 (.int .i64 0) fun v6 =>
 ld h2 v6 fun v7 =>
 ca W0 46 [v7, (.str [32])] h2 fun v8 h3 =>
 lnR v8 fun v9 =>
 bi .neq v9 (.int .i64 3) fun v10 =>
 ∃ J2 : AV → EH → Prop, (∀ v11 h4, J2 v11 h4 →
 pk v10 (.bool true) v11 fun v12 =>
 ∃ J3 : AV → EH → Prop, (∀ v13 h5, J3 v13 h5 →
 pk v12 (.bool true) v13 fun v14 =>
 cn v14 (
 retW [.v (.str []), .v (.int .i64 0), .v (.pl (.slice none 0 0)), .v (.pl (.slice none 0 0)), .v (.int .i64 3)] h5 k)
 (ia 1 v1 (.int .i64 0) fun v15 =>
 ld h5 v15 fun v16 =>
 lnS v16 fun v17 =>
 bi .add v17 (.int .i64 1) fun v18 =>
 pW (.slS (.c a0) (some (.c v18)) none) fun v19 =>
 ca W0 55 [v19] h5 fun v20 h6 =>
 ia 1 v8 (.int .i64 2) fun v21 =>
 ld h6 v21 fun v22 =>
 ca W0 56 [v20] h6 fun v23 h7 =>
 ckP (.load none (.c v21)) h7 v22 ∧
 bi .neq v22 v23 fun v24 =>
 cn v24 (
 retW [.v (.str []), .v (.int .i64 0), .v (.pl (.slice none 0 0)), .v (.pl (.slice none 0 0)), .v (.int .i64 3)] h7 k)
 (∃ (J4 : Nat → AV → AV → AV → EH → Prop) (n1 : Nat), J4 n1 (.pl (.slice none 0 0)) (.pl (.slice none 0 0)) (.int .i64 1) h7 ∧ ∀ n1 v25 v26 v27 h8, J4 n1 v25 v26 v27 h8 →
 lnR v1 fun v28 =>
 bi .sub v28 (.int .i64 1) fun v29 =>
 bi .lss v27 v29 fun v30 =>
 cn v30 (
 ia 1 v1 v27 fun v31 =>
 ld h8 v31 fun v32 =>
 ca W0 57 [v32] h8 fun v33 h9 =>
 ex v33 0 fun v34 =>
 ex v33 1 fun v35 =>
 ex v33 2 fun v36 =>
 al [(.str []), (.str []), (.int .i64 0), (.int .i64 0), (.bool false)] h9 fun v37 h10 =>
 st 5 v37 v35 h10 fun v38 h11 =>
 pW (.un .not (.c v36)) fun v39 =>
 ∃ J5 : AV → EH → Prop, (∀ v40 h12, J5 v40 h12 →
 pk v39 (.bool true) v40 fun v41 =>
 cn v41 (
 retW [.v (.str []), .v (.int .i64 0), .v (.pl (.slice none 0 0)), .v (.pl (.slice none 0 0)), .v (.int .i64 3)] h12 k)
 (eW (.bslice 1 [(.c v34)]) h12 fun v42 h13 =>
 ldn 5 h13 v37 fun v43 =>
 eW (.bslice 5 [(.c v43)]) h13 fun v44 h14 =>
 eW (.append 1 16 false (.c v25) (.c v42)) h14 fun v45 h15 =>
 ckP (.load (some 5) (.c v37)) h15 v43 ∧
 eW (.append 5 56 false (.c v26) (.c v44)) h15 fun v46 h16 =>
 bi .add v27 (.int .i64 1) fun v47 =>
 ∃ m1, m1 < n1 ∧ J4 m1 v45 v46 v47 h16)) ∧
 (cg v39 false (
 lnR v25 fun v48 =>
 bi .gtr v48 (.int .i64 0) fun v49 =>
 ∃ J6 : AV → EH → Prop, (∀ v50 h17, J6 v50 h17 →
 pk v49 v50 (.bool false) fun v51 =>
 J5 v51 h17) ∧
 (cg v49 true (
 lnR v25 fun v52 =>
 bi .sub v52 (.int .i64 1) fun v53 =>
 ia 1 v25 v53 fun v54 =>
 ld h11 v54 fun v55 =>
 bi .geq v55 v34 fun v56 =>
 J6 v56 h11)
 (J6 (.pl undef) h11)))
 (J5 (.pl undef) h11)))
 (ia 1 v8 (.int .i64 1) fun v57 =>
 ld h8 v57 fun v58 =>
 retW [.v v58, .v v20, .v v25, .v v26, .v (.int .i64 0)] h8 k)))) ∧
 (cg v12 false (
 ia 1 v8 (.int .i64 1) fun v59 =>
 ld h4 v59 fun v60 =>
 ca W0 54 [v60] h4 fun v61 h18 =>
 pW (.un .not (.c v61)) fun v62 =>
 J3 v62 h18)
 (J3 (.pl undef) h4))) ∧
 (cg v10 false (
 ia 1 v8 (.int .i64 0) fun v63 =>
 ld h3 v63 fun v64 =>
 bi .neq v64 (.str [109, 111, 100, 117, 108, 101]) fun v65 =>
 J2 v65 h3)
 (J2 (.pl undef) h3)))) ∧
 (cg v3 false (
 lnR v1 fun v66 =>
 bi .sub v66 (.int .i64 1) fun v67 =>
 ia 1 v1 v67 fun v68 =>
 ld h1 v68 fun v69 =>
 bi .neq v69 (.str []) fun v70 =>
 J1 v70 h1)
 (J1 (.pl undef) h1))
theorem W20_ok {W0 : World} {a0 : AV} {h : EH} {k : AV → EH → Prop} (e : W20 W0 a0 h k) : SCalls Tryz.prog W0 20 [a0] h k :=
  jcalls_of 1 Tryz.func20 (by kernel_rfl) (hs := List.range 111) (ks := [none, none, none, none, some [28], none, none, none, none, some [41], some [48], none, none, none, none, none, none, none, none, none, some [10, 11, 12], none, none, none, none, none, none, some [94], some [95], none, none]) (by kernel_rfl) rfl ((by kernel_rfl : W20 W0 a0 h k = sjF Tryz.prog W0 Tryz.f20 (List.range 111) [none, none, none, none, some [28], none, none, none, none, some [41], some [48], none, none, none, none, none, none, none, none, none, some [10, 11, 12], none, none, none, none, none, none, some [94], some [95], none, none] [a0] h k).mp e)
end Go.Proofs.YtnpkhnlcpeebcaaGreatDoor
