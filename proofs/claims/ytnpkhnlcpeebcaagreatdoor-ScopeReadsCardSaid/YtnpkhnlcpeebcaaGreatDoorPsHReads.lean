/- ScopeReads answers true for every argument, and the argument reads behind the call as it read before; what the row lists of package variables is what the program's text lays. -/
import Derived.Test.YtnpkhnlcpeebcaaGreatDoorPsGReads
import Derived.Test.YtnpkhnlcpeebcaaGreatDoorTie
import Derived.Test.YtnpkhnlcpeebcaaGreatDoorCards
set_option linter.all false
namespace Go.Proofs.YtnpkhnlcpeebcaaGreatDoor
open Go.RowKit

theorem wordReads : Rows.scopeReadsRow.wfByText (OpenSpec.ofChange Rows.scopeReadsSpec) = true := by kernel_rfl
theorem mainReads : Tryz.pinned.checked.prog.mainIs = some (true, "f144d965e475e34c6e1eb3bd074b542e1b433eb951dd543b38487385077b21e2".toList) := by kernel_rfl
theorem looksReads : true = Tryz.pinned.checked.prog.looks [] := by kernel_rfl
theorem goesAllReads : Tryz.prog.funcs.toList.any Func.goes = false := by kernel_rfl
theorem goesAtReads (g : Nat) : (Tryz.prog.funcs[g]?).any Func.goes = false := by
  rw [← Array.getElem?_toList]
  cases h : Tryz.prog.funcs.toList[g]? with
  | none => rfl
  | some fn =>
    have := List.any_eq_false.1 goesAllReads fn (List.mem_of_getElem? h)
    simpa using this
theorem goesNoReads (f : Nat) : Tryz.prog.goes f = false := by
  unfold Program.goes
  have h1 : ((Tryz.prog.closure f).any fun g => (Tryz.prog.funcs[g]?).any Func.goes) = false := by
    rw [List.any_eq_false]
    intro g _
    rw [goesAtReads g]; simp
  have h2 : Tryz.prog.funcs.any Func.goes = false := by rw [← Array.any_toList]; exact goesAllReads
  rw [h1, h2]; simp
theorem goesReads : false = Rows.scopeReadsRow.goesBy Tryz.pinned.checked.prog := by
  show false = (Tryz.prog.goesFrom Rows.scopeReadsRow.func || false)
  unfold Program.goesFrom
  cases Tryz.prog.funcNamed Rows.scopeReadsRow.func with
  | none => rfl
  | some f => simp [goesNoReads f]
theorem standReads : Tryz.prog.wantsStandIn 9 = false := by kernel_rfl
theorem plainReads (f : FuncId) (fn : Func) (hf : Tryz.pinned.checked.prog.funcNamed Rows.scopeReadsRow.func = some f) (hfn : Tryz.pinned.checked.prog.funcs[f]? = some fn) :
    true = Tryz.pinned.checked.prog.looks [] ∧ ∀ (j : Nat) t, fn.params[j]? = some t → Tryz.pinned.checked.prog.wantsStandIn t = false := by
  obtain rfl : f = 4 := Option.some.inj (funcReads.symm.trans hf) |>.symm
  obtain rfl : fn = Tryz.f4 := (Option.some.inj (Tryz.func4.symm.trans hfn)).symm
  refine ⟨looksReads, fun j t ht => ?_⟩
  rw [Tryz.params4] at ht
  obtain rfl : t = 9 := by simpa using Array.mem_of_getElem? ht
  exact standReads
theorem cardReads : Rows.ScopeReadsCardSaid :=
  Claim7.holds_tied_plain_at .later [] [.data, .data, .data, .data, .sentinel, .sentinel, .pinned] true (true, "f144d965e475e34c6e1eb3bd074b542e1b433eb951dd543b38487385077b21e2") true saidReads (fun _ h => by cases h) wordReads (fun _ h => by cases h) scopeReads_row_tie rfl ⟨rfl, rfl⟩ mainReads rfl plainReads goesReads
end Go.Proofs.YtnpkhnlcpeebcaaGreatDoor
