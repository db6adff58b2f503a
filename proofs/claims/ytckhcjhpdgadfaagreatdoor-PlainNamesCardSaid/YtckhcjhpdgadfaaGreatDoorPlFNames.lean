/- Closed facts of PlainNames: its row's cells, a first world. -/
import Derived.Test.YtckhcjhpdgadfaaGreatDoorRows
import Derived.Test.YtckhcjhpdgadfaaGreatDoorPlK
import Derived.LaidMore
import Derived.Lay
import Derived.ProofKit
import Derived.OpenShut
import Derived.JoinedOf
import Derived.Stop.Joined
set_option linter.all false
set_option maxRecDepth 100000
namespace Go.Proofs.YtckhcjhpdgadfaaGreatDoor
open Go.ChangeShapes Go.WideShapes Go.ChangeAt Go.RowKit

noncomputable def witNames (os : Os) : World := (World.laidAll Tryz.prog os Rows.plainNamesRow.laid).forCall (fun _ _ => 0) ⟨#[], #[.int .i64 0], []⟩
theorem ownNames : ownKnob Tryz.prog.godebug = none := by kernel_rfl
theorem funcNames : Tryz.pinned.checked.prog.funcNamed Rows.plainNamesRow.func = some 3 := by kernel_rfl
section
theorem factNames0 : (Rows.plainNamesRow.wf (OpenSpec.ofChange Rows.plainNamesSpec)) = true := by kernel_rfl
theorem factNames1 : (laidOutB Tryz.pinned.checked.prog) = true := by kernel_rfl
theorem factNames2 : (mapsRowed Tryz.pinned.checked.prog) = true := by kernel_rfl
theorem factNames3 : (Tryz.f3.params.all (Tryz.pinned.checked.prog.readableRec ·)) = true := by kernel_rfl
theorem factNames4 : (namedTie Tryz.pinned.checked.prog Rows.plainNamesRow.named Rows.plainNamesSpec.vars) = true := by kernel_rfl
theorem factNames5 : ((Rows.plainNamesRow.stops == [])) = true := by kernel_rfl
theorem factNames6 : ((Tryz.pinned.checked.prog.stops == [])) = true := by kernel_rfl
theorem factNames7 : ((Rows.plainNamesRow.knobs == [])) = true := by kernel_rfl
theorem factNames8 : ((Tryz.pinned.checked.prog.stopKnobs == [])) = true := by kernel_rfl
theorem factNames9 : ((Rows.plainNamesRow.inPlace == Tryz.pinned.checked.prog.inPlace 3)) = true := by
  show (Rows.plainNamesRow.inPlace == Tryz.prog.inPlace 3) = true
  unfold Program.inPlace
  rw [clos3_ok]
  kernel_rfl
theorem unfNames : Tryz.prog.unfollowed 3 = true := by
  unfold Program.unfollowed
  rw [clos3_ok]
  kernel_rfl
theorem factNames10 : ((Rows.plainNamesRow.unfollowed == Tryz.pinned.checked.prog.unfollowed 3)) = true := by
  show (true == Tryz.prog.unfollowed 3) = true
  rw [unfNames]
  rfl
theorem factNames11 : ((Rows.plainNamesRow.recurses == Tryz.pinned.checked.prog.recurses 3)) = true := by
  show (true == Tryz.prog.recurses 3) = true
  unfold Program.recurses
  rw [unfNames]
  rfl
theorem factNames12 : ((Rows.plainNamesRow.named == Tryz.pinned.checked.prog.varsNamed 3)) = true := by
  show (Rows.plainNamesRow.named == Tryz.prog.varsNamed 3) = true
  unfold Program.varsNamed
  rw [clos3_ok]
  kernel_rfl
theorem factNames13 : ((Rows.plainNamesRow.maps == (Tryz.f3.params.toList ++ Rows.plainNamesSpec.plain.varTypes Tryz.pinned.checked.prog).any (Tryz.pinned.checked.prog.mapsRec ·))) = true := by kernel_rfl
theorem factNames14 : ((Rows.plainNamesRow.ifaces == (Tryz.f3.params.toList ++ Rows.plainNamesSpec.plain.varTypes Tryz.pinned.checked.prog).any (Tryz.pinned.checked.prog.ifacesRec ·))) = true := by kernel_rfl
theorem factNames15 : ((Rows.plainNamesRow.mapsOut == Tryz.pinned.checked.prog.mapsAmong Tryz.f3.resultTypes.toList)) = true := by kernel_rfl
theorem factNames16 : ((Rows.plainNamesRow.loops == (Tryz.f3.params.toList ++ Rows.plainNamesSpec.plain.varTypes Tryz.pinned.checked.prog).any (Tryz.pinned.checked.prog.loopsFrom ·))) = true := by kernel_rfl
theorem factNames17 : ((Rows.plainNamesRow.wideKeys == (Tryz.f3.params.toList ++ Rows.plainNamesSpec.plain.varTypes Tryz.pinned.checked.prog ++ Tryz.f3.resultTypes.toList).any (Tryz.pinned.checked.prog.wideKeysFrom ·))) = true := by kernel_rfl
theorem factNames18 : (Rows.plainNamesSpec.vars.all (Tryz.pinned.checked.prog.varReadable ·)) = true := by kernel_rfl
theorem factNames19 : (Tryz.f3.resultTypes.all (fun t => Tryz.pinned.checked.prog.readableRec t && decide (t < Tryz.pinned.checked.prog.types.size))) = true := by kernel_rfl
theorem factNames20 : ((Rows.plainNamesRow.ifacesOut == Tryz.f3.resultTypes.toList.any (Tryz.pinned.checked.prog.ifacesRec ·))) = true := by kernel_rfl
theorem factNames21 : ((Rows.plainNamesRow.loopsOut == Tryz.f3.resultTypes.toList.any (Tryz.pinned.checked.prog.loopsFrom ·))) = true := by kernel_rfl
theorem factNames22 : ((Rows.plainNamesRow.plainKeys == Tryz.pinned.checked.prog.plainKeys)) = true := by kernel_rfl
theorem factNames23 : (Rows.plainNamesRow.shortTexts.isNone) = true := by kernel_rfl
theorem factNames24 : (Tryz.pinned.checked.prog.stopsHeard) = true := by kernel_rfl
theorem factNames25 : (Tryz.pinned.checked.prog.mayEnter) = true := by kernel_rfl
theorem factNames26 : ((Rows.plainNamesRow.lifted == Tryz.pinned.checked.prog.liftsFinal)) = true := by kernel_rfl
theorem factNames27 : ((Tryz.pinned.checked.prog.make == some Rows.plainNamesRow.make)) = true := by kernel_rfl
theorem factNames28 : ((Rows.plainNamesRow.kinds == (if Rows.plainNamesRow.domain.isEmpty then [] else Tryz.f3.params.toList.map fun t => match Tryz.pinned.checked.prog.underlying t with | some (.int k) => some k | _ => none))) = true := by kernel_rfl
theorem factNames29 : ((Rows.plainNamesRow.pinned == Rows.plainNamesRow.pinnedBy)) = true := by kernel_rfl
theorem factNames30 : ((Rows.plainNamesRow.veiled == (Tryz.f3.params.toList ++ Rows.plainNamesSpec.plain.varTypes Tryz.pinned.checked.prog ++ Tryz.f3.resultTypes.toList).any (Tryz.pinned.checked.prog.veiledRec ·))) = true := by kernel_rfl
theorem factNames31 : (Rows.plainNamesRow.veiledFits Tryz.pinned.checked.prog Tryz.f3.params.toList (Tryz.f3.params.toList ++ Rows.plainNamesSpec.plain.varTypes Tryz.pinned.checked.prog ++ Tryz.f3.resultTypes.toList)) = true := by kernel_rfl
theorem closedNames : joinedFacts Tryz.pinned.checked.prog 3 Tryz.f3 Rows.plainNamesSpec Rows.plainNamesRow = true := by
  unfold joinedFacts
  simp only [Bool.and_eq_true]
  exact ⟨⟨⟨⟨⟨⟨⟨⟨⟨⟨⟨⟨⟨⟨⟨⟨⟨⟨⟨⟨⟨⟨⟨⟨⟨⟨⟨⟨⟨⟨⟨factNames0, factNames1⟩, factNames2⟩, factNames3⟩, factNames4⟩, factNames5⟩, factNames6⟩, factNames7⟩, factNames8⟩, factNames9⟩, factNames10⟩, factNames11⟩, factNames12⟩, factNames13⟩, factNames14⟩, factNames15⟩, factNames16⟩, factNames17⟩, factNames18⟩, factNames19⟩, factNames20⟩, factNames21⟩, factNames22⟩, factNames23⟩, factNames24⟩, factNames25⟩, factNames26⟩, factNames27⟩, factNames28⟩, factNames29⟩, factNames30⟩, factNames31⟩
end
theorem fitsNames (os : Os) : (World.holding Tryz.prog os ⟨#[], #[], []⟩).layFits Tryz.prog Rows.plainNamesRow.laid [] = true := by kernel_rfl
theorem ifacesNames (os : Os) : (World.holding Tryz.prog os ⟨#[], #[], []⟩).layIfaces Tryz.prog Rows.plainNamesRow.laid (World.laidAll Tryz.prog os Rows.plainNamesRow.laid) = true := by kernel_rfl
theorem zipNames (os : Os) : (witNames os).variablesZipB Tryz.prog = true := by kernel_rfl
theorem tailNames (os : Os) : ((witNames os).heap.toList.drop Tryz.prog.globals.size).take ((begin Tryz.prog (fun _ _ => 0) default).world.heap.size - Tryz.prog.globals.size) = (begin Tryz.prog (fun _ _ => 0) default).world.heap.toList.drop Tryz.prog.globals.size := by kernel_rfl
theorem wideNames (os : Os) : Input.okWideB Tryz.prog (witNames os) 3 ⟨#[], #[.int .i64 0], []⟩ = true := by kernel_rfl
theorem preNames (os : Os) {H : Type} (enc : TypeId × Value → H) : Rows.plainNamesSpec.preB enc Tryz.prog Tryz.f3 Rows.plainNamesRow.domain false (witNames os).memory #[.int .i64 0] 8 = true := by kernel_rfl
theorem sizedNames (os : Os) {H : Type} (enc : TypeId × Value → H) : Rows.plainNamesSpec.sizedB enc Tryz.prog Tryz.f3 false (witNames os).memory #[.int .i64 0] 8 = true := by kernel_rfl
end Go.Proofs.YtckhcjhpdgadfaaGreatDoor
