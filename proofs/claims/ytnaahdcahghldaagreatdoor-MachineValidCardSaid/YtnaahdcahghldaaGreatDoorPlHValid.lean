/- MachineValid answers true for every argument, and the argument reads behind the call as it read before; what the row lists of package variables is what the program's text lays. -/
import Derived.Test.YtnaahdcahghldaaGreatDoorPlGValid
import Derived.Test.YtnaahdcahghldaaGreatDoorPlT7
import Derived.Test.YtnaahdcahghldaaGreatDoorCards
set_option linter.all false
namespace Go.Proofs.YtnaahdcahghldaaGreatDoor
open Go.RowKit

theorem wordValid : Rows.machineValidRow.wfByText (OpenSpec.ofChange Rows.machineValidSpec) = true := by kernel_rfl
theorem mainValid : Tryz.pinned.checked.prog.mainIs = some (true, "f3af587976bf91eccb0d659c809da9dc34f2ee3a1914df8624b98412c6528694".toList) := by kernel_rfl
theorem looksValid : true = Tryz.pinned.checked.prog.looks [] := by kernel_rfl
theorem goesAllValid : Tryz.prog.funcs.toList.any Func.goes = false := by kernel_rfl
theorem goesAtValid (g : Nat) : (Tryz.prog.funcs[g]?).any Func.goes = false := by
  rw [← Array.getElem?_toList]
  cases h : Tryz.prog.funcs.toList[g]? with
  | none => rfl
  | some fn =>
    have := List.any_eq_false.1 goesAllValid fn (List.mem_of_getElem? h)
    simpa using this
theorem goesNoValid (f : Nat) : Tryz.prog.goes f = false := by
  unfold Program.goes
  have h1 : ((Tryz.prog.closure f).any fun g => (Tryz.prog.funcs[g]?).any Func.goes) = false := by
    rw [List.any_eq_false]
    intro g _
    rw [goesAtValid g]; simp
  have h2 : Tryz.prog.funcs.any Func.goes = false := by rw [← Array.any_toList]; exact goesAllValid
  rw [h1, h2]; simp
theorem goesValid : false = Rows.machineValidRow.goesBy Tryz.pinned.checked.prog := by
  show false = (Tryz.prog.goesFrom Rows.machineValidRow.func || false)
  unfold Program.goesFrom
  cases Tryz.prog.funcNamed Rows.machineValidRow.func with
  | none => rfl
  | some f => simp [goesNoValid f]
theorem standValid : Tryz.prog.wantsStandIn 23 = false := by kernel_rfl
theorem plainValid (f : FuncId) (fn : Func) (hf : Tryz.pinned.checked.prog.funcNamed Rows.machineValidRow.func = some f) (hfn : Tryz.pinned.checked.prog.funcs[f]? = some fn) :
    true = Tryz.pinned.checked.prog.looks [] ∧ ∀ (j : Nat) t, fn.params[j]? = some t → Tryz.pinned.checked.prog.wantsStandIn t = false := by
  obtain rfl : f = 3 := Option.some.inj (funcValid.symm.trans hf) |>.symm
  obtain rfl : fn = Tryz.f3 := (Option.some.inj (Tryz.func3.symm.trans hfn)).symm
  refine ⟨looksValid, fun j t ht => ?_⟩
  rw [Tryz.params3] at ht
  obtain rfl : t = 23 := by simpa using Array.mem_of_getElem? ht
  exact standValid
theorem cardValid : Rows.MachineValidCardSaid :=
  Claim7.holds_tied_plain_at .later [] [.sentinel, .sentinel, .data, .data, .data, .pinned, .data] true (true, "f3af587976bf91eccb0d659c809da9dc34f2ee3a1914df8624b98412c6528694") true saidValid (fun _ h => by cases h) wordValid (fun _ h => by cases h) rowTieValid rfl ⟨rfl, rfl⟩ mainValid rfl plainValid goesValid
end Go.Proofs.YtnaahdcahghldaaGreatDoor
