/- Closed facts of MachineValid: the variables that the row lists, laid once. -/
import Derived.Test.YtnaahdcahghldaaGreatDoorRows
import Derived.Test.YtnaahdcahghldaaGreatDoorPlF0
import Derived.Test.YtnaahdcahghldaaGreatDoorPlN
import Derived.LaidMore
import Derived.Lay
import Derived.ProofKit
import Derived.OpenShut
import Derived.JoinedOf
import Derived.Stop.Joined
set_option linter.all false
set_option maxRecDepth 100000
namespace Go.Proofs.YtnaahdcahghldaaGreatDoor
open Go.ChangeShapes Go.WideShapes Go.ChangeAt Go.RowKit

theorem lay_err (t : TypeId) (n : Nat) (d : DataW Unit) (h1 : (match Tryz.prog.underlying t with | some (.interface _) => true | _ => false) = true) (h3 : (d.lay Tryz.prog 833 n).isSome = true)
    (h4 : (Lay.pack Tryz.prog 833 ((d.lay Tryz.prog 833 n).get h3).1).isSome = true) : (DataW.iface "*errors.errorString" d).lay Tryz.prog t n = some ([.iface 833 ((Lay.pack Tryz.prog 833 ((d.lay Tryz.prog 833 n).get h3).1).get h4)], ((d.lay Tryz.prog 833 n).get h3).2) := by
  obtain ⟨x, hx⟩ := Option.isSome_iff_exists.1 h3
  have e1 : (d.lay Tryz.prog 833 n).get h3 = x := by simp only [hx, Option.get_some]
  have h4' := h4
  rw [e1] at h4'
  obtain ⟨v, hv⟩ := Option.isSome_iff_exists.1 h4'
  have e2 : (Lay.pack Tryz.prog 833 ((d.lay Tryz.prog 833 n).get h3).1).get h4 = v := by
    apply Option.get_of_eq_some
    rw [e1, hv]
  rw [e2, e1]
  unfold DataW.lay
  rw [errType]
  split at h1
  · rename_i hi
    rw [hi]
    simp only
    rw [hx]
    simp only
    rw [hv]
  · cases h1
theorem layCons {P : Program} {n : Nat} {name : String} {d : DataW Unit} {r : List (String × DataW Unit)} (h1 : (P.globalNamed name).isSome = true) (h2 : (P.globals[(P.globalNamed name).get h1]?).isSome = true)
    {y : List Value × List Obj} {z : List (Nat × List Value) × List Obj} (h3 : d.lay P ((P.globals[(P.globalNamed name).get h1]?).get h2).type n = some y) (h4 : Lay.layList P (n + y.2.length) r = some z) :
    Lay.layList P n ((name, d) :: r) = some (((P.globalNamed name).get h1, y.1) :: z.1, y.2 ++ z.2) := by
  obtain ⟨g, hg⟩ := Option.isSome_iff_exists.1 h1
  have e1 : (P.globalNamed name).get h1 = g := by simp only [hg, Option.get_some]
  have h2' := h2
  rw [e1] at h2'
  obtain ⟨gl, hgl⟩ := Option.isSome_iff_exists.1 h2'
  have e2 : (P.globals[(P.globalNamed name).get h1]?).get h2 = gl := by
    apply Option.get_of_eq_some
    rw [e1, hgl]
  rw [e2] at h3
  rw [e1]
  unfold Lay.layList
  rw [hg]
  simp only
  rw [hgl]
  simp only
  rw [h3]
  simp only
  rw [h4]
theorem some_get {α : Type} {o : Option α} (h : o.isSome = true) : o = some (o.get h) := (Option.some_get h).symm
noncomputable def N0 : Nat := Tryz.prog.globals.size + 5
noncomputable def inner : DataW Unit → DataW Unit
  | .iface _ d => d
  | d => d
noncomputable def exY : {Y : List (Nat × List Value) × List Obj // Lay.layList Tryz.prog N0 Rows.machineValidRow.laid = some Y} :=
  ⟨_, show Lay.layList Tryz.prog N0 (("strconv.ErrSyntax", DataW.iface "*errors.errorString" (inner Rows.laid_strconv_ErrSyntax)) :: ("strconv.ErrRange", DataW.iface "*errors.errorString" (inner Rows.laid_strconv_ErrRange)) :: Rows.machineValidRow.laid.drop 2) = some _ from
    layCons (by kernel_rfl) (by kernel_rfl) (lay_err _ _ _ (by kernel_rfl) (by kernel_rfl) (by kernel_rfl)) (layCons (by kernel_rfl) (by kernel_rfl) (lay_err _ _ _ (by kernel_rfl) (by kernel_rfl) (by kernel_rfl)) (some_get (by kernel_rfl)))⟩
theorem hsz (os : Os) : (World.holding Tryz.prog os ⟨#[], #[], []⟩).heap.size = N0 := by
  unfold World.holding World.settled begin
  rw [waits_ok]
  kernel_rfl
theorem layVars_of {P : Program} {w : World} {l : List (String × DataW Unit)} {y : List (Nat × List Value) × List Obj} {n : Nat} (hn : w.heap.size = n) (h : Lay.layList P n l = some y) :
    w.layVars P l = { w with heap := ⟨Lay.setRows w.heap.toList y.1 ++ y.2⟩ } := by
  subst hn
  unfold World.layVars
  rw [h]
theorem layFits_of {P : Program} {w : World} {l : List (String × DataW Unit)} {B : List Nat} {y : List (Nat × List Value) × List Obj} {n : Nat} (hn : w.heap.size = n) (h : Lay.layList P n l = some y)
    (h1 : decide (y.1.map (·.1)).Nodup = true) (h2 : (y.1.all fun r => Lay.isRow w.heap.toList[r.1]? && !B.contains r.1) = true) (h3 : B.all (· < w.heap.size) = true) : w.layFits P l B = true := by
  subst hn
  unfold World.layFits
  rw [h]
  simp only [h1, h2, h3, Bool.and_self]
theorem layIfaces_of {P : Program} {w w' : World} {l : List (String × DataW Unit)} {y : List (Nat × List Value) × List Obj} {n : Nat} (hn : w.heap.size = n) (h : Lay.layList P n l = some y)
    (h1 : (y.1.all fun r => r.2.all (Lay.okV P w')) = true) (h2 : y.2.all (Lay.okO P w') = true) : w.layIfaces P l w' = true := by
  subst hn
  unfold World.layIfaces
  rw [h]
  simp only [h1, h2, Bool.and_self]
theorem laid_eq (os : Os) : World.laidAll Tryz.prog os Rows.machineValidRow.laid = { World.holding Tryz.prog os ⟨#[], #[], []⟩ with heap := ⟨Lay.setRows (World.holding Tryz.prog os ⟨#[], #[], []⟩).heap.toList exY.1.1 ++ exY.1.2⟩ } :=
  layVars_of (hsz os) exY.2
theorem fitsValid (os : Os) : (World.holding Tryz.prog os ⟨#[], #[], []⟩).layFits Tryz.prog Rows.machineValidRow.laid [] = true :=
  layFits_of (hsz os) exY.2 (by kernel_rfl) (by
    unfold World.holding World.settled begin
    rw [waits_ok]
    kernel_rfl) rfl
end Go.Proofs.YtnaahdcahghldaaGreatDoor
