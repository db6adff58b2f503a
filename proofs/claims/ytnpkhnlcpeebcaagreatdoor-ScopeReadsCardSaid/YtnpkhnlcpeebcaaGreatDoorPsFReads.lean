/- Closed facts of ScopeReads: its row's cells, a first world. -/
import Derived.Test.YtnpkhnlcpeebcaaGreatDoorRows
import Derived.Test.YtnpkhnlcpeebcaaGreatDoorPsK
import Derived.LaidMore
import Derived.Lay
import Derived.ProofKit
import Derived.OpenShut
import Derived.JoinedOf
import Derived.Stop.Joined
set_option linter.all false
set_option maxRecDepth 100000
namespace Go.Proofs.YtnpkhnlcpeebcaaGreatDoor
open Go.ChangeShapes Go.WideShapes Go.ChangeAt Go.RowKit

noncomputable def witReads (os : Os) : World := (World.laidAll Tryz.prog os Rows.scopeReadsRow.laid).forCall (fun _ _ => 0) ⟨#[], #[.string ⟨#[]⟩], []⟩
theorem ownReads : ownKnob Tryz.prog.godebug = none := by kernel_rfl
theorem funcReads : Tryz.pinned.checked.prog.funcNamed Rows.scopeReadsRow.func = some 4 := by kernel_rfl
section
theorem factReads0 : (Rows.scopeReadsRow.wf (OpenSpec.ofChange Rows.scopeReadsSpec)) = true := by kernel_rfl
theorem factReads1 : (laidOutB Tryz.pinned.checked.prog) = true := by kernel_rfl
theorem factReads2 : (mapsRowed Tryz.pinned.checked.prog) = true := by kernel_rfl
theorem factReads3 : (Tryz.f4.params.all (Tryz.pinned.checked.prog.readableRec ·)) = true := by kernel_rfl
theorem factReads4 : (namedTie Tryz.pinned.checked.prog Rows.scopeReadsRow.named Rows.scopeReadsSpec.vars) = true := by kernel_rfl
theorem factReads5 : ((Rows.scopeReadsRow.stops == [])) = true := by kernel_rfl
theorem factReads6 : ((Tryz.pinned.checked.prog.stops == [])) = true := by kernel_rfl
theorem factReads7 : ((Rows.scopeReadsRow.knobs == [])) = true := by kernel_rfl
theorem factReads8 : ((Tryz.pinned.checked.prog.stopKnobs == [])) = true := by kernel_rfl
theorem factReads9 : ((Rows.scopeReadsRow.inPlace == Tryz.pinned.checked.prog.inPlace 4)) = true := by
  show (Rows.scopeReadsRow.inPlace == Tryz.prog.inPlace 4) = true
  unfold Program.inPlace
  rw [clos4_ok]
  kernel_rfl
theorem unfReads : Tryz.prog.unfollowed 4 = true := by
  unfold Program.unfollowed
  rw [clos4_ok]
  kernel_rfl
theorem factReads10 : ((Rows.scopeReadsRow.unfollowed == Tryz.pinned.checked.prog.unfollowed 4)) = true := by
  show (true == Tryz.prog.unfollowed 4) = true
  rw [unfReads]
  rfl
theorem factReads11 : ((Rows.scopeReadsRow.recurses == Tryz.pinned.checked.prog.recurses 4)) = true := by
  show (true == Tryz.prog.recurses 4) = true
  unfold Program.recurses
  rw [unfReads]
  rfl
theorem factReads12 : ((Rows.scopeReadsRow.named == Tryz.pinned.checked.prog.varsNamed 4)) = true := by
  show (Rows.scopeReadsRow.named == Tryz.prog.varsNamed 4) = true
  unfold Program.varsNamed
  rw [clos4_ok]
  kernel_rfl
theorem factReads13 : ((Rows.scopeReadsRow.maps == (Tryz.f4.params.toList ++ Rows.scopeReadsSpec.plain.varTypes Tryz.pinned.checked.prog).any (Tryz.pinned.checked.prog.mapsRec ·))) = true := by kernel_rfl
theorem factReads14 : ((Rows.scopeReadsRow.ifaces == (Tryz.f4.params.toList ++ Rows.scopeReadsSpec.plain.varTypes Tryz.pinned.checked.prog).any (Tryz.pinned.checked.prog.ifacesRec ·))) = true := by kernel_rfl
theorem factReads15 : ((Rows.scopeReadsRow.mapsOut == Tryz.pinned.checked.prog.mapsAmong Tryz.f4.resultTypes.toList)) = true := by kernel_rfl
theorem factReads16 : ((Rows.scopeReadsRow.loops == (Tryz.f4.params.toList ++ Rows.scopeReadsSpec.plain.varTypes Tryz.pinned.checked.prog).any (Tryz.pinned.checked.prog.loopsFrom ·))) = true := by kernel_rfl
theorem factReads17 : ((Rows.scopeReadsRow.wideKeys == (Tryz.f4.params.toList ++ Rows.scopeReadsSpec.plain.varTypes Tryz.pinned.checked.prog ++ Tryz.f4.resultTypes.toList).any (Tryz.pinned.checked.prog.wideKeysFrom ·))) = true := by kernel_rfl
theorem factReads18 : (Rows.scopeReadsSpec.vars.all (Tryz.pinned.checked.prog.varReadable ·)) = true := by kernel_rfl
theorem factReads19 : (Tryz.f4.resultTypes.all (fun t => Tryz.pinned.checked.prog.readableRec t && decide (t < Tryz.pinned.checked.prog.types.size))) = true := by kernel_rfl
theorem factReads20 : ((Rows.scopeReadsRow.ifacesOut == Tryz.f4.resultTypes.toList.any (Tryz.pinned.checked.prog.ifacesRec ·))) = true := by kernel_rfl
theorem factReads21 : ((Rows.scopeReadsRow.loopsOut == Tryz.f4.resultTypes.toList.any (Tryz.pinned.checked.prog.loopsFrom ·))) = true := by kernel_rfl
theorem factReads22 : ((Rows.scopeReadsRow.plainKeys == Tryz.pinned.checked.prog.plainKeys)) = true := by kernel_rfl
theorem factReads23 : (Rows.scopeReadsRow.shortTexts.isNone) = true := by kernel_rfl
theorem factReads24 : (Tryz.pinned.checked.prog.stopsHeard) = true := by kernel_rfl
theorem factReads25 : (Tryz.pinned.checked.prog.mayEnter) = true := by kernel_rfl
theorem factReads26 : ((Rows.scopeReadsRow.lifted == Tryz.pinned.checked.prog.liftsFinal)) = true := by kernel_rfl
theorem factReads27 : ((Tryz.pinned.checked.prog.make == some Rows.scopeReadsRow.make)) = true := by kernel_rfl
theorem factReads28 : ((Rows.scopeReadsRow.kinds == (if Rows.scopeReadsRow.domain.isEmpty then [] else Tryz.f4.params.toList.map fun t => match Tryz.pinned.checked.prog.underlying t with | some (.int k) => some k | _ => none))) = true := by kernel_rfl
theorem factReads29 : ((Rows.scopeReadsRow.pinned == Rows.scopeReadsRow.pinnedBy)) = true := by kernel_rfl
theorem factReads30 : ((Rows.scopeReadsRow.veiled == (Tryz.f4.params.toList ++ Rows.scopeReadsSpec.plain.varTypes Tryz.pinned.checked.prog ++ Tryz.f4.resultTypes.toList).any (Tryz.pinned.checked.prog.veiledRec ·))) = true := by kernel_rfl
theorem factReads31 : (Rows.scopeReadsRow.veiledFits Tryz.pinned.checked.prog Tryz.f4.params.toList (Tryz.f4.params.toList ++ Rows.scopeReadsSpec.plain.varTypes Tryz.pinned.checked.prog ++ Tryz.f4.resultTypes.toList)) = true := by kernel_rfl
theorem closedReads : joinedFacts Tryz.pinned.checked.prog 4 Tryz.f4 Rows.scopeReadsSpec Rows.scopeReadsRow = true := by
  unfold joinedFacts
  simp only [Bool.and_eq_true]
  exact ⟨⟨⟨⟨⟨⟨⟨⟨⟨⟨⟨⟨⟨⟨⟨⟨⟨⟨⟨⟨⟨⟨⟨⟨⟨⟨⟨⟨⟨⟨⟨factReads0, factReads1⟩, factReads2⟩, factReads3⟩, factReads4⟩, factReads5⟩, factReads6⟩, factReads7⟩, factReads8⟩, factReads9⟩, factReads10⟩, factReads11⟩, factReads12⟩, factReads13⟩, factReads14⟩, factReads15⟩, factReads16⟩, factReads17⟩, factReads18⟩, factReads19⟩, factReads20⟩, factReads21⟩, factReads22⟩, factReads23⟩, factReads24⟩, factReads25⟩, factReads26⟩, factReads27⟩, factReads28⟩, factReads29⟩, factReads30⟩, factReads31⟩
end
theorem fitsReads (os : Os) : (World.holding Tryz.prog os ⟨#[], #[], []⟩).layFits Tryz.prog Rows.scopeReadsRow.laid [] = true := by kernel_rfl
theorem ifacesReads (os : Os) : (World.holding Tryz.prog os ⟨#[], #[], []⟩).layIfaces Tryz.prog Rows.scopeReadsRow.laid (World.laidAll Tryz.prog os Rows.scopeReadsRow.laid) = true := by kernel_rfl
theorem zipReads (os : Os) : (witReads os).variablesZipB Tryz.prog = true := by kernel_rfl
theorem tailReads (os : Os) : ((witReads os).heap.toList.drop Tryz.prog.globals.size).take ((begin Tryz.prog (fun _ _ => 0) default).world.heap.size - Tryz.prog.globals.size) = (begin Tryz.prog (fun _ _ => 0) default).world.heap.toList.drop Tryz.prog.globals.size := by kernel_rfl
theorem wideReads (os : Os) : Input.okWideB Tryz.prog (witReads os) 4 ⟨#[], #[.string ⟨#[]⟩], []⟩ = true := by kernel_rfl
theorem preReads (os : Os) {H : Type} (enc : TypeId × Value → H) : Rows.scopeReadsSpec.preB enc Tryz.prog Tryz.f4 Rows.scopeReadsRow.domain false (witReads os).memory #[.string ⟨#[]⟩] 8 = true := by kernel_rfl
theorem sizedReads (os : Os) {H : Type} (enc : TypeId × Value → H) : Rows.scopeReadsSpec.sizedB enc Tryz.prog Tryz.f4 false (witReads os).memory #[.string ⟨#[]⟩] 8 = true := by kernel_rfl
end Go.Proofs.YtnpkhnlcpeebcaaGreatDoor
