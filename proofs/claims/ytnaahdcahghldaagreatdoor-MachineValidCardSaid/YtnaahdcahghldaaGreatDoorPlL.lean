/- The program is laid out: by parts. -/
import Derived.Test.YtnaahdcahghldaaGreatDoorPlK
set_option linter.all false
set_option maxRecDepth 100000
namespace Go.Proofs.YtnaahdcahghldaaGreatDoor
open Go
theorem lo0 : (List.range' 0 100).all (rowFine Tryz.prog) = true := by kernel_rfl
theorem lo1 : (List.range' 100 100).all (rowFine Tryz.prog) = true := by kernel_rfl
theorem lo2 : (List.range' 200 100).all (rowFine Tryz.prog) = true := by kernel_rfl
theorem lo3 : (List.range' 300 100).all (rowFine Tryz.prog) = true := by kernel_rfl
theorem lo4 : (List.range' 400 100).all (rowFine Tryz.prog) = true := by kernel_rfl
theorem lo5 : (List.range' 500 100).all (rowFine Tryz.prog) = true := by kernel_rfl
theorem lo6 : (List.range' 600 100).all (rowFine Tryz.prog) = true := by kernel_rfl
theorem lo7 : (List.range' 700 100).all (rowFine Tryz.prog) = true := by kernel_rfl
theorem lo8 : (List.range' 800 53).all (rowFine Tryz.prog) = true := by kernel_rfl
theorem loRange : List.range Tryz.prog.types.size = List.range' 0 100 ++ (List.range' 100 100 ++ (List.range' 200 100 ++ (List.range' 300 100 ++ (List.range' 400 100 ++ (List.range' 500 100 ++ (List.range' 600 100 ++ (List.range' 700 100 ++ (List.range' 800 53)))))))) := by kernel_rfl
theorem loG : Tryz.prog.globals.all (fun g => decide (g.type < Tryz.prog.types.size)) = true := by kernel_rfl
theorem loSize : Tryz.prog.types.size = 853 := by kernel_rfl
theorem loF0 : fns0.all (fun f => f.params.all fun t => decide (t < 853)) = true := by kernel_rfl
theorem loF1 : fns1.all (fun f => f.params.all fun t => decide (t < 853)) = true := by kernel_rfl
theorem loF2 : fns2.all (fun f => f.params.all fun t => decide (t < 853)) = true := by kernel_rfl
theorem loF3 : fns3.all (fun f => f.params.all fun t => decide (t < 853)) = true := by kernel_rfl
theorem loF4 : fns4.all (fun f => f.params.all fun t => decide (t < 853)) = true := by kernel_rfl
theorem loF5 : fns5.all (fun f => f.params.all fun t => decide (t < 853)) = true := by kernel_rfl
theorem loF6 : fns6.all (fun f => f.params.all fun t => decide (t < 853)) = true := by kernel_rfl
theorem loF7 : fns7.all (fun f => f.params.all fun t => decide (t < 853)) = true := by kernel_rfl
theorem loF8 : fns8.all (fun f => f.params.all fun t => decide (t < 853)) = true := by kernel_rfl
theorem loF9 : fns9.all (fun f => f.params.all fun t => decide (t < 853)) = true := by kernel_rfl
theorem loF10 : fns10.all (fun f => f.params.all fun t => decide (t < 853)) = true := by kernel_rfl
theorem loF : Tryz.prog.funcs.all (fun f => f.params.all fun t => decide (t < Tryz.prog.types.size)) = true := by
  rw [← Array.all_toList, loSize, fns_ok]
  simp only [List.all_append, loF0, loF1, loF2, loF3, loF4, loF5, loF6, loF7, loF8, loF9, loF10, Bool.and_self]
theorem loAll : laidOutB Tryz.prog = true := by
  unfold laidOutB
  rw [loG, loF, loRange]
  simp only [List.all_append, lo0, lo1, lo2, lo3, lo4, lo5, lo6, lo7, lo8, Bool.and_self]
end Go.Proofs.YtnaahdcahghldaaGreatDoor
