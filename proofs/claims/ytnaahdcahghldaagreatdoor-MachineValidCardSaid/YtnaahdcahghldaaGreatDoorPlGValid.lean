/- MachineValid: whatever the argument, true; the argument reads as it did. The package variables that the row lists hold what it lists. -/
import Derived.Test.YtnaahdcahghldaaGreatDoorPlFValid
import Derived.Test.YtnaahdcahghldaaGreatDoorPlO
import Derived.ChangeMaps5
import Derived.Lib.SmallJoins
set_option linter.all false
namespace Go.Proofs.YtnaahdcahghldaaGreatDoor
open Go.ChangeShapes Go.WideShapes Go.ChangeAt Go.RowKit
open Go.ChangeMaps (open_string shut_string)

set_option maxRecDepth 100000 in
theorem liftedValid (os : Os) (started : os.Started) (H : Type) (enc : TypeId × Value → H) :
    ReturnsInHanded {} Tryz.checked os 3 .any (fun w args => (Rows.machineValidSpec.pre enc Tryz.prog Tryz.f3 Rows.machineValidRow.domain false w args ∧ laidMetH Tryz.prog Rows.machineValidRow.laid w) ∧ sizedMet enc Tryz.prog Tryz.f3 (OpenSpec.ofChange Rows.machineValidSpec) false w args)
      (Rows.machineValidSpec.post enc Tryz.prog Tryz.f3 false true false false) := by
  refine returnsInHanded_of_change_and (C := Tryz.checked) (X := fun w _ => laidMetH Tryz.prog Rows.machineValidRow.laid w) (fun _ _ _ hh h => h.of_heap hh) ownValid started (by kernel_rfl) Tryz.func3
    (ChangeSpec.witness_shaped (enc := enc) (C := Tryz.checked) (os := os) (X := fun w _ => laidMetH Tryz.prog Rows.machineValidRow.laid w) false (World.laidAll Tryz.prog os Rows.machineValidRow.laid) #[.agg #[.bool false, .bool false, .bool false, .bool false, .int .i64 0, .int .i64 0]] 8 (World.laidAll_os _ _ _)
      (World.shaped_of_ZipB (zipValid os) (tailValid os)) (wideValid os) (preValid os enc) (sizedValid os enc)
      (by rw [MakeChecks.laidMetH_plain _ _ _ (by kernel_rfl)]; exact laidMet_laidAll _ (fitsValid os) (ifacesValid os))) ?_
  intro W base args ds gs before hval0 hW hc _ hL _
  have hval : ∀ (j : Nat) t v, Tryz.f3.params[j]? = some t → args[j]? = some v → Value.okWide Tryz.prog W .any base t v := hval0
  have hW' := hW
  obtain ⟨p, q, hA0, hV, rfl, _, _⟩ := hW
  have hA : DataW.TrodAll enc Tryz.prog W 0 (fun _ => true) true Tryz.f3.params.toList args.toList ds p := hA0
  rw [Tryz.params3] at hA hval
  obtain ⟨v0, d0, rfl, rfl, h0⟩ := trodAll_one hA
  obtain ⟨rfl, rfl⟩ := trodVars_none hV
  obtain ⟨xa, xb, xc, xd, xt, xl, rfl, rfl, rfl, reads⟩ := open_opt (enc := enc) (hval 0 23 v0 rfl rfl) h0
  simp only [List.append_nil] at hW'
  refine (valid_calls xa xb xc xd xt xl W).mono fun e W' ⟨he, hb⟩ => ?_
  subst he
  exact ⟨_, rfl, Go.Qa.post_nil hW' (fun _ _ _ => trodAll_mk1 (shut_bool Tryz.underlying4 _)) (fun _ => trodAll_mk1 (reads _ _)) (fun _ => rfl) hb.frame (ok_one (by kernel_rfl) rfl (okWide_bool_mk Tryz.underlying4 _))⟩
theorem saidValid : Rows.MachineValidSaid :=
  OpenClaim.holds_of_wide 3 Tryz.f3 rfl rfl rfl rfl rfl rfl rfl ⟨rfl, rfl, rfl, rfl, rfl⟩ rfl rfl rfl rfl rfl funcValid Tryz.func3 closedValid
    (of_decide_eq_true (by kernel_rfl)) (by unfold Func.isWrapper; first | (rw [if_pos (by decide +kernel)]; kernel_rfl) | (rw [if_neg (by decide +kernel)]; exact ⟨rfl, rfl⟩))
    (fun os started H enc _ => liftedValid os started H enc)
end Go.Proofs.YtnaahdcahghldaaGreatDoor
