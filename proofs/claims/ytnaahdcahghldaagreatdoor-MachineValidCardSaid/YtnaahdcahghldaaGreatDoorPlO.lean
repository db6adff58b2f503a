/- Options, by value: opened and shut; the law's call of them. -/
import Derived.Test.YtnaahdcahghldaaGreatDoorRows
import Derived.Test.YtnaahdcahghldaaGreatDoorPlE
import Derived.ChangeMaps5
import Derived.Lib.SmallJoins
set_option linter.all false
set_option maxRecDepth 100000
namespace Go.Proofs.YtnaahdcahghldaaGreatDoor
open Go Go.Qa Go.RowKit Go.ChangeShapes Go.WideShapes

theorem cells23 : Tryz.prog.cellsOf 23 = 6 := by kernel_rfl
theorem cells3 : Tryz.prog.cellsOf 3 = 1 := by kernel_rfl
theorem cells4 : Tryz.prog.cellsOf 4 = 1 := by kernel_rfl
theorem one6 {α : Type} {cs : Array α} (h : cs.size = 6) : ∃ a b c d e f, cs = #[a, b, c, d, e, f] := by
  obtain ⟨l⟩ := cs
  match l, h with
  | [a, b, c, d, e, f], _ => exact ⟨a, b, c, d, e, f, rfl⟩
theorem shut_opt {H : Type} (enc : TypeId × Value → H) (W : World) (n0 : Nat) (sp : Nat → Bool) (a b c e : Bool) (t l : Int) (wt : (Lit.int IntKind.i64 t).wf = true) (wl : (Lit.int IntKind.i64 l).wf = true) :
    DataW.Trod enc Tryz.prog W n0 sp true 23 (.agg #[.bool a, .bool b, .bool c, .bool e, .int .i64 t, .int .i64 l]) (.agg [.lit (.bool a), .lit (.bool b), .lit (.bool c), .lit (.bool e), .lit (.int .i64 t), .lit (.int .i64 l)]) [] := by
  have := trod_struct_mk (enc := enc) (P := Tryz.prog) (w := W) (base := n0) (spare := sp) (held := true) (n := 1) (cs := [.bool a, .bool b, .bool c, .bool e, .int .i64 t, .int .i64 l]) (xs := [(.lit (.bool a), []), (.lit (.bool b), []), (.lit (.bool c), []), (.lit (.bool e), []), (.lit (.int .i64 t), []), (.lit (.int .i64 l), [])]) Tryz.underlying23 (by rw [cells23]; rfl)
    (by simp [DataW.trod, Tryz.underlying4, Tryz.underlying3, cells3, cells4, wt, wl])
  exact ⟨2, by simpa [Value.cells] using this⟩
theorem open_opt {H : Type} {enc : TypeId × Value → H} {W : World} {r : Reach} {b0 n0 : Nat} {sp : Nat → Bool} {v : Value} {d : DataW H} {p : List MemPlace} (hv : Value.okWide Tryz.prog W r b0 23 v) (h : DataW.Trod enc Tryz.prog W n0 sp true 23 v d p) :
    ∃ (a b c e : Bool) (t l : Int), v = .agg #[.bool a, .bool b, .bool c, .bool e, .int .i64 t, .int .i64 l] ∧ d = .agg [.lit (.bool a), .lit (.bool b), .lit (.bool c), .lit (.bool e), .lit (.int .i64 t), .lit (.int .i64 l)] ∧ p = [] ∧
      ∀ (W' : World) (sp : Nat → Bool), DataW.Trod enc Tryz.prog W' n0 sp true 23 (.agg #[.bool a, .bool b, .bool c, .bool e, .int .i64 t, .int .i64 l]) (.agg [.lit (.bool a), .lit (.bool b), .lit (.bool c), .lit (.bool e), .lit (.int .i64 t), .lit (.int .i64 l)]) [] := by
  obtain ⟨cs, rfl, hsz⟩ := okWide_struct Tryz.underlying23 hv
  obtain ⟨c0, c1, c2, c3, c4, c5, rfl⟩ := one6 (hsz.trans cells23)
  obtain ⟨fuel, hf⟩ := h
  obtain ⟨xs, n, rfl, hx, _, hlen, hfs⟩ := DataW.trod_struct Tryz.underlying23 hf
  match xs, hlen with
  | [y0, y1, y2, y3, y4, y5], _ =>
    have k0 : DataW.trod enc Tryz.prog W n0 sp true n 4 (List.take (Tryz.prog.cellsOf 4) (List.drop 0 (Value.agg #[c0, c1, c2, c3, c4, c5]).cells.toList)) = some y0 := hfs 0 _ rfl
    have k1 : DataW.trod enc Tryz.prog W n0 sp true n 4 (List.take (Tryz.prog.cellsOf 4) (List.drop 1 (Value.agg #[c0, c1, c2, c3, c4, c5]).cells.toList)) = some y1 := hfs 1 _ rfl
    have k2 : DataW.trod enc Tryz.prog W n0 sp true n 4 (List.take (Tryz.prog.cellsOf 4) (List.drop 2 (Value.agg #[c0, c1, c2, c3, c4, c5]).cells.toList)) = some y2 := hfs 2 _ rfl
    have k3 : DataW.trod enc Tryz.prog W n0 sp true n 4 (List.take (Tryz.prog.cellsOf 4) (List.drop 3 (Value.agg #[c0, c1, c2, c3, c4, c5]).cells.toList)) = some y3 := hfs 3 _ rfl
    have k4 : DataW.trod enc Tryz.prog W n0 sp true n 3 (List.take (Tryz.prog.cellsOf 3) (List.drop 4 (Value.agg #[c0, c1, c2, c3, c4, c5]).cells.toList)) = some y4 := hfs 4 _ rfl
    have k5 : DataW.trod enc Tryz.prog W n0 sp true n 3 (List.take (Tryz.prog.cellsOf 3) (List.drop 5 (Value.agg #[c0, c1, c2, c3, c4, c5]).cells.toList)) = some y5 := hfs 5 _ rfl
    rw [cells4] at k0 k1 k2 k3
    rw [cells3] at k4 k5
    simp only [Value.cells, List.drop_zero, List.drop_succ_cons, List.take_succ_cons, List.take_zero, List.getElem?_cons_zero, List.getElem?_cons_succ] at k0 k1 k2 k3 k4 k5
    obtain ⟨a, z0, rfl⟩ := DataW.trod_bool Tryz.underlying4 k0
    obtain ⟨b, z1, rfl⟩ := DataW.trod_bool Tryz.underlying4 k1
    obtain ⟨c, z2, rfl⟩ := DataW.trod_bool Tryz.underlying4 k2
    obtain ⟨e, z3, rfl⟩ := DataW.trod_bool Tryz.underlying4 k3
    obtain ⟨t, z4, rfl, wt⟩ := DataW.trod_int Tryz.underlying3 k4
    obtain ⟨l, z5, rfl, wl⟩ := DataW.trod_int Tryz.underlying3 k5
    simp at z0 z1 z2 z3 z4 z5
    subst z0 z1 z2 z3 z4 z5
    simp at hx
    exact ⟨a, b, c, e, t, l, rfl, hx.1, hx.2, fun W' sp => shut_opt enc W' n0 sp a b c e t l wt wl⟩
theorem cellsX : True := trivial
theorem valid_calls (a b c d : Bool) (t l : Int) (W : World) : Calls Tryz.prog 3 #[.agg #[.bool a, .bool b, .bool c, .bool d, .int .i64 t, .int .i64 l]] W fun e w' => e = .returned (.bool true) ∧ Below W.heap.size W w' := by
  refine (valid_law a b c d t l).calls_true W (vs := [.agg #[.bool a, .bool b, .bool c, .bool d, .int .i64 t, .int .i64 l]]) (VRels.cons (.agg _ [.bool a, .bool b, .bool c, .bool d, .int .i64 t, .int .i64 l] rfl (fun j hj => ?_)) (VRels.nil _))
  rcases j with _ | _ | _ | _ | _ | _ | j
  · exact .bool a
  · exact .bool b
  · exact .bool c
  · exact .bool d
  · exact .int .i64 t
  · exact .int .i64 l
  · exact absurd hj (by simp)
end Go.Proofs.YtnaahdcahghldaaGreatDoor
