/- PlainNil answers true for every argument, and the argument reads behind the call as it read before; what the row lists of package variables is what the program's text lays. -/
import Derived.Test.YtckhcjhpdgadfaaGreatDoorPlGNil
import Derived.Test.YtckhcjhpdgadfaaGreatDoorPlT7
import Derived.Test.YtckhcjhpdgadfaaGreatDoorCards
set_option linter.all false
namespace Go.Proofs.YtckhcjhpdgadfaaGreatDoor
open Go.RowKit

theorem wordNil : Rows.plainNilRow.wfByText (OpenSpec.ofChange Rows.plainNilSpec) = true := by kernel_rfl
theorem mainNil : Tryz.pinned.checked.prog.mainIs = some (true, "b02fa8a66fb65c838fb934db9d9c9ff7fc66b853231b51ba829d84e98d50401c".toList) := by kernel_rfl
theorem looksNil : true = Tryz.pinned.checked.prog.looks [] := by kernel_rfl
theorem goesAllNil : Tryz.prog.funcs.toList.any Func.goes = false := by kernel_rfl
theorem goesAtNil (g : Nat) : (Tryz.prog.funcs[g]?).any Func.goes = false := by
  rw [← Array.getElem?_toList]
  cases h : Tryz.prog.funcs.toList[g]? with
  | none => rfl
  | some fn =>
    have := List.any_eq_false.1 goesAllNil fn (List.mem_of_getElem? h)
    simpa using this
theorem goesNoNil (f : Nat) : Tryz.prog.goes f = false := by
  unfold Program.goes
  have h1 : ((Tryz.prog.closure f).any fun g => (Tryz.prog.funcs[g]?).any Func.goes) = false := by
    rw [List.any_eq_false]
    intro g _
    rw [goesAtNil g]; simp
  have h2 : Tryz.prog.funcs.any Func.goes = false := by rw [← Array.any_toList]; exact goesAllNil
  rw [h1, h2]; simp
theorem goesNil : false = Rows.plainNilRow.goesBy Tryz.pinned.checked.prog := by
  show false = (Tryz.prog.goesFrom Rows.plainNilRow.func || false)
  unfold Program.goesFrom
  cases Tryz.prog.funcNamed Rows.plainNilRow.func with
  | none => rfl
  | some f => simp [goesNoNil f]
theorem standNil : Tryz.prog.wantsStandIn 9 = false := by kernel_rfl
theorem plainNil (f : FuncId) (fn : Func) (hf : Tryz.pinned.checked.prog.funcNamed Rows.plainNilRow.func = some f) (hfn : Tryz.pinned.checked.prog.funcs[f]? = some fn) :
    true = Tryz.pinned.checked.prog.looks [] ∧ ∀ (j : Nat) t, fn.params[j]? = some t → Tryz.pinned.checked.prog.wantsStandIn t = false := by
  obtain rfl : f = 4 := Option.some.inj (funcNil.symm.trans hf) |>.symm
  obtain rfl : fn = Tryz.f4 := (Option.some.inj (Tryz.func4.symm.trans hfn)).symm
  refine ⟨looksNil, fun j t ht => ?_⟩
  rw [Tryz.params4] at ht
  obtain rfl : t = 9 := by simpa using Array.mem_of_getElem? ht
  exact standNil
theorem cardNil : Rows.PlainNilCardSaid :=
  Claim7.holds_tied_plain_at .later [] [.sentinel, .sentinel, .data, .data, .data, .pinned, .data] true (true, "b02fa8a66fb65c838fb934db9d9c9ff7fc66b853231b51ba829d84e98d50401c") true saidNil (fun _ h => by cases h) wordNil (fun _ h => by cases h) rowTieNil rfl ⟨rfl, rfl⟩ mainNil rfl plainNil goesNil
end Go.Proofs.YtckhcjhpdgadfaaGreatDoor
