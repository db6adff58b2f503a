/- Closed facts of PlainNil: its row's cells, a first world. -/
import Derived.Test.YtckhcjhpdgadfaaGreatDoorRows
import Derived.Test.YtckhcjhpdgadfaaGreatDoorPlK
import Derived.LaidMore
import Derived.Lay
import Derived.ProofKit
import Derived.OpenShut
import Derived.JoinedOf
import Derived.Stop.Joined
set_option linter.all false
set_option maxRecDepth 100000
namespace Go.Proofs.YtckhcjhpdgadfaaGreatDoor
open Go.ChangeShapes Go.WideShapes Go.ChangeAt Go.RowKit

noncomputable def witNil (os : Os) : World := (World.laidAll Tryz.prog os Rows.plainNilRow.laid).forCall (fun _ _ => 0) ⟨#[], #[.string ⟨#[]⟩], []⟩
theorem ownNil : ownKnob Tryz.prog.godebug = none := by kernel_rfl
theorem funcNil : Tryz.pinned.checked.prog.funcNamed Rows.plainNilRow.func = some 4 := by kernel_rfl
section
theorem factNil0 : (Rows.plainNilRow.wf (OpenSpec.ofChange Rows.plainNilSpec)) = true := by kernel_rfl
theorem factNil1 : (laidOutB Tryz.pinned.checked.prog) = true := by kernel_rfl
theorem factNil2 : (mapsRowed Tryz.pinned.checked.prog) = true := by kernel_rfl
theorem factNil3 : (Tryz.f4.params.all (Tryz.pinned.checked.prog.readableRec ·)) = true := by kernel_rfl
theorem factNil4 : (namedTie Tryz.pinned.checked.prog Rows.plainNilRow.named Rows.plainNilSpec.vars) = true := by kernel_rfl
theorem factNil5 : ((Rows.plainNilRow.stops == [])) = true := by kernel_rfl
theorem factNil6 : ((Tryz.pinned.checked.prog.stops == [])) = true := by kernel_rfl
theorem factNil7 : ((Rows.plainNilRow.knobs == [])) = true := by kernel_rfl
theorem factNil8 : ((Tryz.pinned.checked.prog.stopKnobs == [])) = true := by kernel_rfl
theorem factNil9 : ((Rows.plainNilRow.inPlace == Tryz.pinned.checked.prog.inPlace 4)) = true := by
  show (Rows.plainNilRow.inPlace == Tryz.prog.inPlace 4) = true
  unfold Program.inPlace
  rw [clos4_ok]
  kernel_rfl
theorem unfNil : Tryz.prog.unfollowed 4 = true := by
  unfold Program.unfollowed
  rw [clos4_ok]
  kernel_rfl
theorem factNil10 : ((Rows.plainNilRow.unfollowed == Tryz.pinned.checked.prog.unfollowed 4)) = true := by
  show (true == Tryz.prog.unfollowed 4) = true
  rw [unfNil]
  rfl
theorem factNil11 : ((Rows.plainNilRow.recurses == Tryz.pinned.checked.prog.recurses 4)) = true := by
  show (true == Tryz.prog.recurses 4) = true
  unfold Program.recurses
  rw [unfNil]
  rfl
theorem factNil12 : ((Rows.plainNilRow.named == Tryz.pinned.checked.prog.varsNamed 4)) = true := by
  show (Rows.plainNilRow.named == Tryz.prog.varsNamed 4) = true
  unfold Program.varsNamed
  rw [clos4_ok]
  kernel_rfl
theorem factNil13 : ((Rows.plainNilRow.maps == (Tryz.f4.params.toList ++ Rows.plainNilSpec.plain.varTypes Tryz.pinned.checked.prog).any (Tryz.pinned.checked.prog.mapsRec ·))) = true := by kernel_rfl
theorem factNil14 : ((Rows.plainNilRow.ifaces == (Tryz.f4.params.toList ++ Rows.plainNilSpec.plain.varTypes Tryz.pinned.checked.prog).any (Tryz.pinned.checked.prog.ifacesRec ·))) = true := by kernel_rfl
theorem factNil15 : ((Rows.plainNilRow.mapsOut == Tryz.pinned.checked.prog.mapsAmong Tryz.f4.resultTypes.toList)) = true := by kernel_rfl
theorem factNil16 : ((Rows.plainNilRow.loops == (Tryz.f4.params.toList ++ Rows.plainNilSpec.plain.varTypes Tryz.pinned.checked.prog).any (Tryz.pinned.checked.prog.loopsFrom ·))) = true := by kernel_rfl
theorem factNil17 : ((Rows.plainNilRow.wideKeys == (Tryz.f4.params.toList ++ Rows.plainNilSpec.plain.varTypes Tryz.pinned.checked.prog ++ Tryz.f4.resultTypes.toList).any (Tryz.pinned.checked.prog.wideKeysFrom ·))) = true := by kernel_rfl
theorem factNil18 : (Rows.plainNilSpec.vars.all (Tryz.pinned.checked.prog.varReadable ·)) = true := by kernel_rfl
theorem factNil19 : (Tryz.f4.resultTypes.all (fun t => Tryz.pinned.checked.prog.readableRec t && decide (t < Tryz.pinned.checked.prog.types.size))) = true := by kernel_rfl
theorem factNil20 : ((Rows.plainNilRow.ifacesOut == Tryz.f4.resultTypes.toList.any (Tryz.pinned.checked.prog.ifacesRec ·))) = true := by kernel_rfl
theorem factNil21 : ((Rows.plainNilRow.loopsOut == Tryz.f4.resultTypes.toList.any (Tryz.pinned.checked.prog.loopsFrom ·))) = true := by kernel_rfl
theorem factNil22 : ((Rows.plainNilRow.plainKeys == Tryz.pinned.checked.prog.plainKeys)) = true := by kernel_rfl
theorem factNil23 : (Rows.plainNilRow.shortTexts.isNone) = true := by kernel_rfl
theorem factNil24 : (Tryz.pinned.checked.prog.stopsHeard) = true := by kernel_rfl
theorem factNil25 : (Tryz.pinned.checked.prog.mayEnter) = true := by kernel_rfl
theorem factNil26 : ((Rows.plainNilRow.lifted == Tryz.pinned.checked.prog.liftsFinal)) = true := by kernel_rfl
theorem factNil27 : ((Tryz.pinned.checked.prog.make == some Rows.plainNilRow.make)) = true := by kernel_rfl
theorem factNil28 : ((Rows.plainNilRow.kinds == (if Rows.plainNilRow.domain.isEmpty then [] else Tryz.f4.params.toList.map fun t => match Tryz.pinned.checked.prog.underlying t with | some (.int k) => some k | _ => none))) = true := by kernel_rfl
theorem factNil29 : ((Rows.plainNilRow.pinned == Rows.plainNilRow.pinnedBy)) = true := by kernel_rfl
theorem factNil30 : ((Rows.plainNilRow.veiled == (Tryz.f4.params.toList ++ Rows.plainNilSpec.plain.varTypes Tryz.pinned.checked.prog ++ Tryz.f4.resultTypes.toList).any (Tryz.pinned.checked.prog.veiledRec ·))) = true := by kernel_rfl
theorem factNil31 : (Rows.plainNilRow.veiledFits Tryz.pinned.checked.prog Tryz.f4.params.toList (Tryz.f4.params.toList ++ Rows.plainNilSpec.plain.varTypes Tryz.pinned.checked.prog ++ Tryz.f4.resultTypes.toList)) = true := by kernel_rfl
theorem closedNil : joinedFacts Tryz.pinned.checked.prog 4 Tryz.f4 Rows.plainNilSpec Rows.plainNilRow = true := by
  unfold joinedFacts
  simp only [Bool.and_eq_true]
  exact ⟨⟨⟨⟨⟨⟨⟨⟨⟨⟨⟨⟨⟨⟨⟨⟨⟨⟨⟨⟨⟨⟨⟨⟨⟨⟨⟨⟨⟨⟨⟨factNil0, factNil1⟩, factNil2⟩, factNil3⟩, factNil4⟩, factNil5⟩, factNil6⟩, factNil7⟩, factNil8⟩, factNil9⟩, factNil10⟩, factNil11⟩, factNil12⟩, factNil13⟩, factNil14⟩, factNil15⟩, factNil16⟩, factNil17⟩, factNil18⟩, factNil19⟩, factNil20⟩, factNil21⟩, factNil22⟩, factNil23⟩, factNil24⟩, factNil25⟩, factNil26⟩, factNil27⟩, factNil28⟩, factNil29⟩, factNil30⟩, factNil31⟩
end
theorem fitsNil (os : Os) : (World.holding Tryz.prog os ⟨#[], #[], []⟩).layFits Tryz.prog Rows.plainNilRow.laid [] = true := by kernel_rfl
theorem ifacesNil (os : Os) : (World.holding Tryz.prog os ⟨#[], #[], []⟩).layIfaces Tryz.prog Rows.plainNilRow.laid (World.laidAll Tryz.prog os Rows.plainNilRow.laid) = true := by kernel_rfl
theorem zipNil (os : Os) : (witNil os).variablesZipB Tryz.prog = true := by kernel_rfl
theorem tailNil (os : Os) : ((witNil os).heap.toList.drop Tryz.prog.globals.size).take ((begin Tryz.prog (fun _ _ => 0) default).world.heap.size - Tryz.prog.globals.size) = (begin Tryz.prog (fun _ _ => 0) default).world.heap.toList.drop Tryz.prog.globals.size := by kernel_rfl
theorem wideNil (os : Os) : Input.okWideB Tryz.prog (witNil os) 4 ⟨#[], #[.string ⟨#[]⟩], []⟩ = true := by kernel_rfl
theorem preNil (os : Os) {H : Type} (enc : TypeId × Value → H) : Rows.plainNilSpec.preB enc Tryz.prog Tryz.f4 Rows.plainNilRow.domain false (witNil os).memory #[.string ⟨#[]⟩] 8 = true := by kernel_rfl
theorem sizedNil (os : Os) {H : Type} (enc : TypeId × Value → H) : Rows.plainNilSpec.sizedB enc Tryz.prog Tryz.f4 false (witNil os).memory #[.string ⟨#[]⟩] 8 = true := by kernel_rfl
end Go.Proofs.YtckhcjhpdgadfaaGreatDoor
