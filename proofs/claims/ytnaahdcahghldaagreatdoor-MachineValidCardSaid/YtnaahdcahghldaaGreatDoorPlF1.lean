/- Closed facts of MachineValid: its row's cells, a first world. -/
import Derived.Test.YtnaahdcahghldaaGreatDoorRows
import Derived.Test.YtnaahdcahghldaaGreatDoorPlL
import Derived.LaidMore
import Derived.Lay
import Derived.ProofKit
import Derived.OpenShut
import Derived.JoinedOf
import Derived.Stop.Joined
set_option linter.all false
set_option maxRecDepth 100000
namespace Go.Proofs.YtnaahdcahghldaaGreatDoor
open Go.ChangeShapes Go.WideShapes Go.ChangeAt Go.RowKit

theorem ownValid : ownKnob Tryz.prog.godebug = none := by kernel_rfl
theorem funcValid : Tryz.pinned.checked.prog.funcNamed Rows.machineValidRow.func = some 3 := by kernel_rfl
section
theorem factValid0 : (Rows.machineValidRow.wf (OpenSpec.ofChange Rows.machineValidSpec)) = true := by kernel_rfl
theorem factValid1 : (laidOutB Tryz.pinned.checked.prog) = true := by
  show laidOutB Tryz.prog = true
  exact loAll
theorem factValid2 : (mapsRowed Tryz.pinned.checked.prog) = true := by kernel_rfl
theorem factValid3 : (Tryz.f3.params.all (Tryz.pinned.checked.prog.readableRec ·)) = true := by kernel_rfl
theorem factValid4 : (namedTie Tryz.pinned.checked.prog Rows.machineValidRow.named Rows.machineValidSpec.vars) = true := by kernel_rfl
theorem factValid5 : ((Rows.machineValidRow.stops == [])) = true := by kernel_rfl
theorem factValid6 : ((Tryz.pinned.checked.prog.stops == [])) = true := by kernel_rfl
theorem factValid7 : ((Rows.machineValidRow.knobs == [])) = true := by kernel_rfl
theorem factValid8 : ((Tryz.pinned.checked.prog.stopKnobs == [])) = true := by kernel_rfl
theorem factValid9 : ((Rows.machineValidRow.inPlace == Tryz.pinned.checked.prog.inPlace 3)) = true := by
  show (Rows.machineValidRow.inPlace == Tryz.prog.inPlace 3) = true
  unfold Program.inPlace
  rw [clos3_ok]
  kernel_rfl
theorem unfValid : Tryz.prog.unfollowed 3 = true := by
  unfold Program.unfollowed
  rw [clos3_ok]
  kernel_rfl
theorem factValid10 : ((Rows.machineValidRow.unfollowed == Tryz.pinned.checked.prog.unfollowed 3)) = true := by
  show (true == Tryz.prog.unfollowed 3) = true
  rw [unfValid]
  rfl
theorem factValid11 : ((Rows.machineValidRow.recurses == Tryz.pinned.checked.prog.recurses 3)) = true := by
  show (true == Tryz.prog.recurses 3) = true
  unfold Program.recurses
  rw [unfValid]
  rfl
theorem factValid12 : ((Rows.machineValidRow.named == Tryz.pinned.checked.prog.varsNamed 3)) = true := by
  show (Rows.machineValidRow.named == Tryz.prog.varsNamed 3) = true
  unfold Program.varsNamed
  rw [clos3_ok]
  kernel_rfl
theorem factValid13 : ((Rows.machineValidRow.maps == (Tryz.f3.params.toList ++ Rows.machineValidSpec.plain.varTypes Tryz.pinned.checked.prog).any (Tryz.pinned.checked.prog.mapsRec ·))) = true := by kernel_rfl
theorem factValid14 : ((Rows.machineValidRow.ifaces == (Tryz.f3.params.toList ++ Rows.machineValidSpec.plain.varTypes Tryz.pinned.checked.prog).any (Tryz.pinned.checked.prog.ifacesRec ·))) = true := by kernel_rfl
theorem factValid15 : ((Rows.machineValidRow.mapsOut == Tryz.pinned.checked.prog.mapsAmong Tryz.f3.resultTypes.toList)) = true := by kernel_rfl
theorem factValid16 : ((Rows.machineValidRow.loops == (Tryz.f3.params.toList ++ Rows.machineValidSpec.plain.varTypes Tryz.pinned.checked.prog).any (Tryz.pinned.checked.prog.loopsFrom ·))) = true := by kernel_rfl
theorem factValid17 : ((Rows.machineValidRow.wideKeys == (Tryz.f3.params.toList ++ Rows.machineValidSpec.plain.varTypes Tryz.pinned.checked.prog ++ Tryz.f3.resultTypes.toList).any (Tryz.pinned.checked.prog.wideKeysFrom ·))) = true := by kernel_rfl
theorem factValid18 : (Rows.machineValidSpec.vars.all (Tryz.pinned.checked.prog.varReadable ·)) = true := by kernel_rfl
theorem factValid19 : (Tryz.f3.resultTypes.all (fun t => Tryz.pinned.checked.prog.readableRec t && decide (t < Tryz.pinned.checked.prog.types.size))) = true := by kernel_rfl
theorem factValid20 : ((Rows.machineValidRow.ifacesOut == Tryz.f3.resultTypes.toList.any (Tryz.pinned.checked.prog.ifacesRec ·))) = true := by kernel_rfl
theorem factValid21 : ((Rows.machineValidRow.loopsOut == Tryz.f3.resultTypes.toList.any (Tryz.pinned.checked.prog.loopsFrom ·))) = true := by kernel_rfl
theorem factValid22 : ((Rows.machineValidRow.plainKeys == Tryz.pinned.checked.prog.plainKeys)) = true := by kernel_rfl
theorem factValid23 : (Rows.machineValidRow.shortTexts.isNone) = true := by kernel_rfl
theorem factValid24 : (Tryz.pinned.checked.prog.stopsHeard) = true := by kernel_rfl
theorem factValid25 : (Tryz.pinned.checked.prog.mayEnter) = true := by kernel_rfl
theorem factValid26 : ((Rows.machineValidRow.lifted == Tryz.pinned.checked.prog.liftsFinal)) = true := by kernel_rfl
theorem factValid27 : ((Tryz.pinned.checked.prog.make == some Rows.machineValidRow.make)) = true := by kernel_rfl
theorem factValid28 : ((Rows.machineValidRow.kinds == (if Rows.machineValidRow.domain.isEmpty then [] else Tryz.f3.params.toList.map fun t => match Tryz.pinned.checked.prog.underlying t with | some (.int k) => some k | _ => none))) = true := by kernel_rfl
theorem factValid29 : ((Rows.machineValidRow.pinned == Rows.machineValidRow.pinnedBy)) = true := by kernel_rfl
theorem factValid30 : ((Rows.machineValidRow.veiled == (Tryz.f3.params.toList ++ Rows.machineValidSpec.plain.varTypes Tryz.pinned.checked.prog ++ Tryz.f3.resultTypes.toList).any (Tryz.pinned.checked.prog.veiledRec ·))) = true := by kernel_rfl
theorem factValid31 : (Rows.machineValidRow.veiledFits Tryz.pinned.checked.prog Tryz.f3.params.toList (Tryz.f3.params.toList ++ Rows.machineValidSpec.plain.varTypes Tryz.pinned.checked.prog ++ Tryz.f3.resultTypes.toList)) = true := by kernel_rfl
theorem closedValid : joinedFacts Tryz.pinned.checked.prog 3 Tryz.f3 Rows.machineValidSpec Rows.machineValidRow = true := by
  unfold joinedFacts
  simp only [Bool.and_eq_true]
  exact ⟨⟨⟨⟨⟨⟨⟨⟨⟨⟨⟨⟨⟨⟨⟨⟨⟨⟨⟨⟨⟨⟨⟨⟨⟨⟨⟨⟨⟨⟨⟨factValid0, factValid1⟩, factValid2⟩, factValid3⟩, factValid4⟩, factValid5⟩, factValid6⟩, factValid7⟩, factValid8⟩, factValid9⟩, factValid10⟩, factValid11⟩, factValid12⟩, factValid13⟩, factValid14⟩, factValid15⟩, factValid16⟩, factValid17⟩, factValid18⟩, factValid19⟩, factValid20⟩, factValid21⟩, factValid22⟩, factValid23⟩, factValid24⟩, factValid25⟩, factValid26⟩, factValid27⟩, factValid28⟩, factValid29⟩, factValid30⟩, factValid31⟩
end
end Go.Proofs.YtnaahdcahghldaaGreatDoor
