/- What the law and the two judges of options ask for, printed by program (gw.py). -/
import Derived.Test.YtnaahdcahghldaaGreatDoorQs10
import Derived.Test.YtnaahdcahghldaaGreatDoorPlD
set_option linter.all false
set_option maxRecDepth 100000
namespace Go.Proofs.YtnaahdcahghldaaGreatDoor
open Go Go.Qa Go.Proofs
noncomputable def ca (W0 : World) (g : Nat) (args : List AV) (h : EH) (k : AV → EH → Prop) : Prop := callS Tryz.prog W0 (.fn (.func g) [] []) args h k
theorem ca_i {W0 : World} {g : Nat} {args : List AV} {h : EH} {k : AV → EH → Prop} (q : args.all AV.glob = true) (e : SCalls Tryz.prog W0 g args h k) : ca W0 g args h k := callS_i q e
/-- quadrat/quadratlaw23.MachineValid -/
def W3 (W0 : World) (a0 : AV) (h : EH) (k : AV → EH → Prop) : Prop :=
 eW (.box true (.c a0)) h fun v1 h1 =>
 ldn 6 h1 v1 fun v2 =>
 ldn 6 h1 v1 fun v3 =>
 ca W0 4 [v2] h1 fun v4 h2 =>
 ckP (.load (some 6) (.c v1)) h2 v3 ∧
 ca W0 5 [v3] h2 fun v5 h3 =>
 xW (.eqs .bool false (.c v4) (.c v5)) h3 fun v6 =>
 ∃ J1 : AV → EH → Prop, (∀ v7 h4, J1 v7 h4 →
 pk v6 v7 (.bool false) fun v8 =>
 retW [.v v8] h4 k) ∧
 (cg v6 true (
 ca W0 6 [] h3 fun v9 h5 =>
 J1 v9 h5)
 (J1 (.pl undef) h3))
theorem W3_ok {W0 : World} {a0 : AV} {h : EH} {k : AV → EH → Prop} (e : W3 W0 a0 h k) : SCalls Tryz.prog W0 3 [a0] h k :=
  jcalls_of 1 Tryz.func3 (by kernel_rfl) (hs := List.range 11) (ks := [none, none]) (by kernel_rfl) rfl ((by kernel_rfl : W3 W0 a0 h k = sjF Tryz.prog W0 Tryz.f3 (List.range 11) [none, none] [a0] h k).mp e)
/-- quadrat/machine.Valid -/
def W4 (W0 : World) (a0 : AV) (h : EH) (k : AV → EH → Prop) : Prop :=
 eW (.box true (.c a0)) h fun v1 h1 =>
 of 4 v1 fun v2 =>
 ld h1 v2 fun v3 =>
 bi .geq v3 (.int .i64 0) fun v4 =>
 ∃ J1 : AV → EH → Prop, (∀ v5 h2, J1 v5 h2 →
 pk v4 v5 (.bool false) fun v6 =>
 ∃ J2 : AV → EH → Prop, (∀ v7 h3, J2 v7 h3 →
 pk v6 v7 (.bool false) fun v8 =>
 ∃ J3 : AV → EH → Prop, (∀ v9 h4, J3 v9 h4 →
 pk v8 v9 (.bool false) fun v10 =>
 retW [.v v10] h4 k) ∧
 (cg v8 true (
 of 5 v1 fun v11 =>
 ld h3 v11 fun v12 =>
 bi .leq v12 (.int .i64 64) fun v13 =>
 J3 v13 h3)
 (J3 (.pl undef) h3))) ∧
 (cg v6 true (
 of 5 v1 fun v14 =>
 ld h2 v14 fun v15 =>
 bi .geq v15 (.int .i64 0) fun v16 =>
 J2 v16 h2)
 (J2 (.pl undef) h2))) ∧
 (cg v4 true (
 of 4 v1 fun v17 =>
 ld h1 v17 fun v18 =>
 bi .leq v18 (.int .i64 100) fun v19 =>
 J1 v19 h1)
 (J1 (.pl undef) h1))
theorem W4_ok {W0 : World} {a0 : AV} {h : EH} {k : AV → EH → Prop} (e : W4 W0 a0 h k) : SCalls Tryz.prog W0 4 [a0] h k :=
  jcalls_of 1 Tryz.func4 (by kernel_rfl) (hs := List.range 21) (ks := [none, none, some [9], some [14], some [19]]) (by kernel_rfl) rfl ((by kernel_rfl : W4 W0 a0 h k = sjF Tryz.prog W0 Tryz.f4 (List.range 21) [none, none, some [9], some [14], some [19]] [a0] h k).mp e)
/-- quadrat/quadratref23.Valid -/
def W5 (W0 : World) (a0 : AV) (h : EH) (k : AV → EH → Prop) : Prop :=
 eW (.box true (.c a0)) h fun v1 h1 =>
 of 4 v1 fun v2 =>
 ld h1 v2 fun v3 =>
 bi .geq v3 (.int .i64 0) fun v4 =>
 ∃ J1 : AV → EH → Prop, (∀ v5 h2, J1 v5 h2 →
 pk v4 v5 (.bool false) fun v6 =>
 ∃ J2 : AV → EH → Prop, (∀ v7 h3, J2 v7 h3 →
 pk v6 v7 (.bool false) fun v8 =>
 ∃ J3 : AV → EH → Prop, (∀ v9 h4, J3 v9 h4 →
 pk v8 v9 (.bool false) fun v10 =>
 retW [.v v10] h4 k) ∧
 (cg v8 true (
 of 5 v1 fun v11 =>
 ld h3 v11 fun v12 =>
 bi .leq v12 (.int .i64 64) fun v13 =>
 J3 v13 h3)
 (J3 (.pl undef) h3))) ∧
 (cg v6 true (
 of 5 v1 fun v14 =>
 ld h2 v14 fun v15 =>
 bi .geq v15 (.int .i64 0) fun v16 =>
 J2 v16 h2)
 (J2 (.pl undef) h2))) ∧
 (cg v4 true (
 of 4 v1 fun v17 =>
 ld h1 v17 fun v18 =>
 bi .leq v18 (.int .i64 100) fun v19 =>
 J1 v19 h1)
 (J1 (.pl undef) h1))
theorem W5_ok {W0 : World} {a0 : AV} {h : EH} {k : AV → EH → Prop} (e : W5 W0 a0 h k) : SCalls Tryz.prog W0 5 [a0] h k :=
  jcalls_of 1 Tryz.func5 (by kernel_rfl) (hs := List.range 21) (ks := [none, none, some [9], some [14], some [19]]) (by kernel_rfl) rfl ((by kernel_rfl : W5 W0 a0 h k = sjF Tryz.prog W0 Tryz.f5 (List.range 21) [none, none, some [9], some [14], some [19]] [a0] h k).mp e)
end Go.Proofs.YtnaahdcahghldaaGreatDoor
