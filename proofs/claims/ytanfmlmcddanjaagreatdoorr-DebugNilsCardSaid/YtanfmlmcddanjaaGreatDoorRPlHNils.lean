/- DebugNils answers true for every argument, and the argument reads behind the call as it read before; what the row lists of package variables is what the program's text lays. -/
import Derived.Test.YtanfmlmcddanjaaGreatDoorRPlGNils
import Derived.Test.YtanfmlmcddanjaaGreatDoorRPlT7
import Derived.Test.YtanfmlmcddanjaaGreatDoorRCards
set_option linter.all false
namespace Go.Proofs.YtanfmlmcddanjaaGreatDoorR
open Go.RowKit

theorem wordNils : Rows.debugNilsRow.wfByText (OpenSpec.ofChange Rows.debugNilsSpec) = true := by kernel_rfl
theorem mainNils : Tryz.pinned.checked.prog.mainIs = some (true, "6eaf5bff1579ab878929c2572a3c66acb5c080a7cee0fe7c5d79de24f3b0daf2".toList) := by kernel_rfl
theorem looksNils : true = Tryz.pinned.checked.prog.looks [] := by kernel_rfl
theorem goesAllNils : Tryz.prog.funcs.toList.any Func.goes = false := by kernel_rfl
theorem goesAtNils (g : Nat) : (Tryz.prog.funcs[g]?).any Func.goes = false := by
  rw [← Array.getElem?_toList]
  cases h : Tryz.prog.funcs.toList[g]? with
  | none => rfl
  | some fn =>
    have := List.any_eq_false.1 goesAllNils fn (List.mem_of_getElem? h)
    simpa using this
theorem goesNoNils (f : Nat) : Tryz.prog.goes f = false := by
  unfold Program.goes
  have h1 : ((Tryz.prog.closure f).any fun g => (Tryz.prog.funcs[g]?).any Func.goes) = false := by
    rw [List.any_eq_false]
    intro g _
    rw [goesAtNils g]; simp
  have h2 : Tryz.prog.funcs.any Func.goes = false := by rw [← Array.any_toList]; exact goesAllNils
  rw [h1, h2]; simp
theorem goesNils : false = Rows.debugNilsRow.goesBy Tryz.pinned.checked.prog := by
  show false = (Tryz.prog.goesFrom Rows.debugNilsRow.func || false)
  unfold Program.goesFrom
  cases Tryz.prog.funcNamed Rows.debugNilsRow.func with
  | none => rfl
  | some f => simp [goesNoNils f]
theorem standNils : Tryz.prog.wantsStandIn 23 = false := by kernel_rfl
theorem plainNils (f : FuncId) (fn : Func) (hf : Tryz.pinned.checked.prog.funcNamed Rows.debugNilsRow.func = some f) (hfn : Tryz.pinned.checked.prog.funcs[f]? = some fn) :
    true = Tryz.pinned.checked.prog.looks [] ∧ ∀ (j : Nat) t, fn.params[j]? = some t → Tryz.pinned.checked.prog.wantsStandIn t = false := by
  obtain rfl : f = 3 := Option.some.inj (funcNils.symm.trans hf) |>.symm
  obtain rfl : fn = Tryz.f3 := (Option.some.inj (Tryz.func3.symm.trans hfn)).symm
  refine ⟨looksNils, fun j t ht => ?_⟩
  rw [Tryz.params3] at ht
  obtain rfl : t = 23 := by simpa using Array.mem_of_getElem? ht
  exact standNils
theorem cardNils : Rows.DebugNilsCardSaid :=
  Claim7.holds_tied_plain_at .later [] [.sentinel, .sentinel, .data, .data, .data, .pinned, .data] true (true, "6eaf5bff1579ab878929c2572a3c66acb5c080a7cee0fe7c5d79de24f3b0daf2") true saidNils (fun _ h => by cases h) wordNils (fun _ h => by cases h) rowTieNils rfl ⟨rfl, rfl⟩ mainNils rfl plainNils goesNils
end Go.Proofs.YtanfmlmcddanjaaGreatDoorR
