/- PlainNames answers true for every argument, and the argument reads behind the call as it read before; what the row lists of package variables is what the program's text lays. -/
import Derived.Test.YtckhcjhpdgadfaaGreatDoorPlGNames
import Derived.Test.YtckhcjhpdgadfaaGreatDoorPlT7
import Derived.Test.YtckhcjhpdgadfaaGreatDoorCards
set_option linter.all false
namespace Go.Proofs.YtckhcjhpdgadfaaGreatDoor
open Go.RowKit

theorem wordNames : Rows.plainNamesRow.wfByText (OpenSpec.ofChange Rows.plainNamesSpec) = true := by kernel_rfl
theorem mainNames : Tryz.pinned.checked.prog.mainIs = some (true, "b02fa8a66fb65c838fb934db9d9c9ff7fc66b853231b51ba829d84e98d50401c".toList) := by kernel_rfl
theorem looksNames : true = Tryz.pinned.checked.prog.looks [] := by kernel_rfl
theorem goesAllNames : Tryz.prog.funcs.toList.any Func.goes = false := by kernel_rfl
theorem goesAtNames (g : Nat) : (Tryz.prog.funcs[g]?).any Func.goes = false := by
  rw [← Array.getElem?_toList]
  cases h : Tryz.prog.funcs.toList[g]? with
  | none => rfl
  | some fn =>
    have := List.any_eq_false.1 goesAllNames fn (List.mem_of_getElem? h)
    simpa using this
theorem goesNoNames (f : Nat) : Tryz.prog.goes f = false := by
  unfold Program.goes
  have h1 : ((Tryz.prog.closure f).any fun g => (Tryz.prog.funcs[g]?).any Func.goes) = false := by
    rw [List.any_eq_false]
    intro g _
    rw [goesAtNames g]; simp
  have h2 : Tryz.prog.funcs.any Func.goes = false := by rw [← Array.any_toList]; exact goesAllNames
  rw [h1, h2]; simp
theorem goesNames : false = Rows.plainNamesRow.goesBy Tryz.pinned.checked.prog := by
  show false = (Tryz.prog.goesFrom Rows.plainNamesRow.func || false)
  unfold Program.goesFrom
  cases Tryz.prog.funcNamed Rows.plainNamesRow.func with
  | none => rfl
  | some f => simp [goesNoNames f]
theorem standNames : Tryz.prog.wantsStandIn 3 = false := by kernel_rfl
theorem plainNames (f : FuncId) (fn : Func) (hf : Tryz.pinned.checked.prog.funcNamed Rows.plainNamesRow.func = some f) (hfn : Tryz.pinned.checked.prog.funcs[f]? = some fn) :
    true = Tryz.pinned.checked.prog.looks [] ∧ ∀ (j : Nat) t, fn.params[j]? = some t → Tryz.pinned.checked.prog.wantsStandIn t = false := by
  obtain rfl : f = 3 := Option.some.inj (funcNames.symm.trans hf) |>.symm
  obtain rfl : fn = Tryz.f3 := (Option.some.inj (Tryz.func3.symm.trans hfn)).symm
  refine ⟨looksNames, fun j t ht => ?_⟩
  rw [Tryz.params3] at ht
  obtain rfl : t = 3 := by simpa using Array.mem_of_getElem? ht
  exact standNames
theorem cardNames : Rows.PlainNamesCardSaid :=
  Claim7.holds_tied_plain_at .later [] [.sentinel, .sentinel, .data, .data, .data, .pinned, .data] true (true, "b02fa8a66fb65c838fb934db9d9c9ff7fc66b853231b51ba829d84e98d50401c") true saidNames (fun _ h => by cases h) wordNames (fun _ h => by cases h) rowTieNames rfl ⟨rfl, rfl⟩ mainNames rfl plainNames goesNames
end Go.Proofs.YtckhcjhpdgadfaaGreatDoor
