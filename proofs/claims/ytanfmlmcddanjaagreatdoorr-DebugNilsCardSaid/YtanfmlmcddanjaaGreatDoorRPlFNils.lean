/- Closed facts of DebugNils: its row's cells, a first world. -/
import Derived.Test.YtanfmlmcddanjaaGreatDoorRRows
import Derived.Test.YtanfmlmcddanjaaGreatDoorRPlL
import Derived.LaidMore
import Derived.Lay
import Derived.ProofKit
import Derived.OpenShut
import Derived.JoinedOf
import Derived.Stop.Joined
set_option linter.all false
set_option maxRecDepth 100000
namespace Go.Proofs.YtanfmlmcddanjaaGreatDoorR
open Go.ChangeShapes Go.WideShapes Go.ChangeAt Go.RowKit

noncomputable def witNils (os : Os) : World := (World.laidAll Tryz.prog os Rows.debugNilsRow.laid).forCall (fun _ _ => 0) ⟨#[], #[.agg #[.int .i64 0, .int .i64 0, .string ⟨#[]⟩, .string ⟨#[]⟩]], []⟩
theorem ownNils : ownKnob Tryz.prog.godebug = none := by kernel_rfl
theorem funcNils : Tryz.pinned.checked.prog.funcNamed Rows.debugNilsRow.func = some 3 := by kernel_rfl
section
theorem factNils0 : (Rows.debugNilsRow.wf (OpenSpec.ofChange Rows.debugNilsSpec)) = true := by kernel_rfl
theorem factNils1 : (laidOutB Tryz.pinned.checked.prog) = true := by
  show laidOutB Tryz.prog = true
  exact loAll
theorem factNils2 : (mapsRowed Tryz.pinned.checked.prog) = true := by kernel_rfl
theorem factNils3 : (Tryz.f3.params.all (Tryz.pinned.checked.prog.readableRec ·)) = true := by kernel_rfl
theorem factNils4 : (namedTie Tryz.pinned.checked.prog Rows.debugNilsRow.named Rows.debugNilsSpec.vars) = true := by kernel_rfl
theorem factNils5 : ((Rows.debugNilsRow.stops == [])) = true := by kernel_rfl
theorem factNils6 : ((Tryz.pinned.checked.prog.stops == [])) = true := by kernel_rfl
theorem factNils7 : ((Rows.debugNilsRow.knobs == [])) = true := by kernel_rfl
theorem factNils8 : ((Tryz.pinned.checked.prog.stopKnobs == [])) = true := by kernel_rfl
theorem factNils9 : ((Rows.debugNilsRow.inPlace == Tryz.pinned.checked.prog.inPlace 3)) = true := by
  show (Rows.debugNilsRow.inPlace == Tryz.prog.inPlace 3) = true
  unfold Program.inPlace
  rw [clos3_ok]
  kernel_rfl
theorem unfNils : Tryz.prog.unfollowed 3 = true := by
  unfold Program.unfollowed
  rw [clos3_ok]
  kernel_rfl
theorem factNils10 : ((Rows.debugNilsRow.unfollowed == Tryz.pinned.checked.prog.unfollowed 3)) = true := by
  show (true == Tryz.prog.unfollowed 3) = true
  rw [unfNils]
  rfl
theorem factNils11 : ((Rows.debugNilsRow.recurses == Tryz.pinned.checked.prog.recurses 3)) = true := by
  show (true == Tryz.prog.recurses 3) = true
  unfold Program.recurses
  rw [unfNils]
  rfl
theorem factNils12 : ((Rows.debugNilsRow.named == Tryz.pinned.checked.prog.varsNamed 3)) = true := by
  show (Rows.debugNilsRow.named == Tryz.prog.varsNamed 3) = true
  unfold Program.varsNamed
  rw [clos3_ok]
  kernel_rfl
theorem factNils13 : ((Rows.debugNilsRow.maps == (Tryz.f3.params.toList ++ Rows.debugNilsSpec.plain.varTypes Tryz.pinned.checked.prog).any (Tryz.pinned.checked.prog.mapsRec ·))) = true := by kernel_rfl
theorem factNils14 : ((Rows.debugNilsRow.ifaces == (Tryz.f3.params.toList ++ Rows.debugNilsSpec.plain.varTypes Tryz.pinned.checked.prog).any (Tryz.pinned.checked.prog.ifacesRec ·))) = true := by kernel_rfl
theorem factNils15 : ((Rows.debugNilsRow.mapsOut == Tryz.pinned.checked.prog.mapsAmong Tryz.f3.resultTypes.toList)) = true := by kernel_rfl
theorem factNils16 : ((Rows.debugNilsRow.loops == (Tryz.f3.params.toList ++ Rows.debugNilsSpec.plain.varTypes Tryz.pinned.checked.prog).any (Tryz.pinned.checked.prog.loopsFrom ·))) = true := by kernel_rfl
theorem factNils17 : ((Rows.debugNilsRow.wideKeys == (Tryz.f3.params.toList ++ Rows.debugNilsSpec.plain.varTypes Tryz.pinned.checked.prog ++ Tryz.f3.resultTypes.toList).any (Tryz.pinned.checked.prog.wideKeysFrom ·))) = true := by kernel_rfl
theorem factNils18 : (Rows.debugNilsSpec.vars.all (Tryz.pinned.checked.prog.varReadable ·)) = true := by kernel_rfl
theorem factNils19 : (Tryz.f3.resultTypes.all (fun t => Tryz.pinned.checked.prog.readableRec t && decide (t < Tryz.pinned.checked.prog.types.size))) = true := by kernel_rfl
theorem factNils20 : ((Rows.debugNilsRow.ifacesOut == Tryz.f3.resultTypes.toList.any (Tryz.pinned.checked.prog.ifacesRec ·))) = true := by kernel_rfl
theorem factNils21 : ((Rows.debugNilsRow.loopsOut == Tryz.f3.resultTypes.toList.any (Tryz.pinned.checked.prog.loopsFrom ·))) = true := by kernel_rfl
theorem factNils22 : ((Rows.debugNilsRow.plainKeys == Tryz.pinned.checked.prog.plainKeys)) = true := by kernel_rfl
theorem factNils23 : (Rows.debugNilsRow.shortTexts.isNone) = true := by kernel_rfl
theorem factNils24 : (Tryz.pinned.checked.prog.stopsHeard) = true := by kernel_rfl
theorem factNils25 : (Tryz.pinned.checked.prog.mayEnter) = true := by kernel_rfl
theorem factNils26 : ((Rows.debugNilsRow.lifted == Tryz.pinned.checked.prog.liftsFinal)) = true := by kernel_rfl
theorem factNils27 : ((Tryz.pinned.checked.prog.make == some Rows.debugNilsRow.make)) = true := by kernel_rfl
theorem factNils28 : ((Rows.debugNilsRow.kinds == (if Rows.debugNilsRow.domain.isEmpty then [] else Tryz.f3.params.toList.map fun t => match Tryz.pinned.checked.prog.underlying t with | some (.int k) => some k | _ => none))) = true := by kernel_rfl
theorem factNils29 : ((Rows.debugNilsRow.pinned == Rows.debugNilsRow.pinnedBy)) = true := by kernel_rfl
theorem factNils30 : ((Rows.debugNilsRow.veiled == (Tryz.f3.params.toList ++ Rows.debugNilsSpec.plain.varTypes Tryz.pinned.checked.prog ++ Tryz.f3.resultTypes.toList).any (Tryz.pinned.checked.prog.veiledRec ·))) = true := by kernel_rfl
theorem factNils31 : (Rows.debugNilsRow.veiledFits Tryz.pinned.checked.prog Tryz.f3.params.toList (Tryz.f3.params.toList ++ Rows.debugNilsSpec.plain.varTypes Tryz.pinned.checked.prog ++ Tryz.f3.resultTypes.toList)) = true := by kernel_rfl
theorem closedNils : joinedFacts Tryz.pinned.checked.prog 3 Tryz.f3 Rows.debugNilsSpec Rows.debugNilsRow = true := by
  unfold joinedFacts
  simp only [Bool.and_eq_true]
  exact ⟨⟨⟨⟨⟨⟨⟨⟨⟨⟨⟨⟨⟨⟨⟨⟨⟨⟨⟨⟨⟨⟨⟨⟨⟨⟨⟨⟨⟨⟨⟨factNils0, factNils1⟩, factNils2⟩, factNils3⟩, factNils4⟩, factNils5⟩, factNils6⟩, factNils7⟩, factNils8⟩, factNils9⟩, factNils10⟩, factNils11⟩, factNils12⟩, factNils13⟩, factNils14⟩, factNils15⟩, factNils16⟩, factNils17⟩, factNils18⟩, factNils19⟩, factNils20⟩, factNils21⟩, factNils22⟩, factNils23⟩, factNils24⟩, factNils25⟩, factNils26⟩, factNils27⟩, factNils28⟩, factNils29⟩, factNils30⟩, factNils31⟩
end
theorem fitsNils (os : Os) : (World.holding Tryz.prog os ⟨#[], #[], []⟩).layFits Tryz.prog Rows.debugNilsRow.laid [] = true := by kernel_rfl
theorem ifacesNils (os : Os) : (World.holding Tryz.prog os ⟨#[], #[], []⟩).layIfaces Tryz.prog Rows.debugNilsRow.laid (World.laidAll Tryz.prog os Rows.debugNilsRow.laid) = true := by kernel_rfl
theorem zipNils (os : Os) : (witNils os).variablesZipB Tryz.prog = true := by kernel_rfl
theorem tailNils (os : Os) : ((witNils os).heap.toList.drop Tryz.prog.globals.size).take ((begin Tryz.prog (fun _ _ => 0) default).world.heap.size - Tryz.prog.globals.size) = (begin Tryz.prog (fun _ _ => 0) default).world.heap.toList.drop Tryz.prog.globals.size := by kernel_rfl
theorem wideNils (os : Os) : Input.okWideB Tryz.prog (witNils os) 3 ⟨#[], #[.agg #[.int .i64 0, .int .i64 0, .string ⟨#[]⟩, .string ⟨#[]⟩]], []⟩ = true := by kernel_rfl
theorem preNils (os : Os) {H : Type} (enc : TypeId × Value → H) : Rows.debugNilsSpec.preB enc Tryz.prog Tryz.f3 Rows.debugNilsRow.domain false (witNils os).memory #[.agg #[.int .i64 0, .int .i64 0, .string ⟨#[]⟩, .string ⟨#[]⟩]] 8 = true := by kernel_rfl
theorem sizedNils (os : Os) {H : Type} (enc : TypeId × Value → H) : Rows.debugNilsSpec.sizedB enc Tryz.prog Tryz.f3 false (witNils os).memory #[.agg #[.int .i64 0, .int .i64 0, .string ⟨#[]⟩, .string ⟨#[]⟩]] 8 = true := by kernel_rfl
end Go.Proofs.YtanfmlmcddanjaaGreatDoorR
