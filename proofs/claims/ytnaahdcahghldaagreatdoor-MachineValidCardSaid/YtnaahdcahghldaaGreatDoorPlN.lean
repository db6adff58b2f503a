/- The type of the sentinels, found by its name: no type ahead of it bears it. -/
import Derived.Test.YtnaahdcahghldaaGreatDoorRows
import Derived.Lay
import Derived.KernelRfl
set_option linter.all false
set_option maxRecDepth 100000
namespace Go.Proofs.YtnaahdcahghldaaGreatDoor
open Go

/-- A type that does not bear the name, seen without counting its namesakes. -/
def notN (P : Program) (t : TypeId) : Bool :=
  match P.info? t with
  | some i => match i.desc with
    | .named n _ => !(n == "*errors.errorString")
    | .pointer e => match P.info? e with
      | some j => match j.desc with
        | .named m _ => !(m == "errors.errorString")
        | .pointer _ => false
        | .bool | .int _ | .float _ | .string => !(j.str == "errors.errorString")
        | _ => true
      | none => true
    | .bool | .int _ | .float _ | .string => !(i.str == "*errors.errorString")
    | _ => true
  | none => true
theorem star (x : String) (h : ("*" ++ x) = "*errors.errorString") : x = "errors.errorString" := by
  have h2 : ("*" ++ x) = "*" ++ "errors.errorString" := h
  have := congrArg String.toList h2
  simp only [String.toList_append] at this
  exact String.toList_inj.1 (List.append_cancel_left this)
theorem notN_ok {P : Program} {t : TypeId} (h : notN P t = true) : (P.typeName? 3 t == some "*errors.errorString") = false := by
  unfold notN at h
  unfold Program.typeName?
  cases hi : P.info? t with
  | none => rfl
  | some i =>
    rw [hi] at h
    simp only at h ⊢
    cases hd : i.desc <;> rw [hd] at h <;> simp only at h ⊢ <;> try rfl
    all_goals try (split <;> first | rfl | simpa using h)
    rename_i e
    cases hx : P.typeName? 2 e with
    | none => rfl
    | some x =>
      simp only [Option.map_some]
      have : x ≠ "errors.errorString" := by
        rintro rfl
        unfold Program.typeName? at hx
        cases hj : P.info? e with
        | none => rw [hj] at hx; cases hx
        | some j =>
          rw [hj] at h hx
          simp only at h hx
          cases hd2 : j.desc <;> rw [hd2] at h hx <;> simp only at h hx <;> try (cases hx; done)
          all_goals first
            | (cases h; done)
            | (split at hx
               · cases hx
               · have := Option.some.inj hx
                 rw [this] at h
                 simp at h)
            | (split at hx
               · have := Option.some.inj hx
                 rw [this] at h
                 simp at h
               · cases hx)
      simp only [beq_eq_false_iff_ne, ne_eq, Option.some.injEq]
      exact fun q => this (star _ q)
theorem find_range (p : Nat → Bool) (N u : Nat) (hu : u < N) (h0 : p u = true) (hl : ∀ v, v < u → p v = false) : (List.range N).find? p = some u := by
  rw [List.find?_range_eq_some]
  exact ⟨h0, by simpa using hu, fun j hj => by simp [hl j hj]⟩
theorem nn0 : (List.range 833).all (notN Tryz.prog) = true := by kernel_rfl
theorem nn1 : (Tryz.prog.typeName? 3 833 == some "*errors.errorString") = true := by kernel_rfl
theorem nn2 : decide (833 < Tryz.prog.types.size) = true := by kernel_rfl
theorem errType : (List.range Tryz.prog.types.size).find? (fun u => Tryz.prog.typeName? 3 u == some "*errors.errorString") = some 833 :=
  find_range _ _ _ (of_decide_eq_true nn2) nn1 fun v hv => notN_ok (List.all_eq_true.1 nn0 v (List.mem_range.2 hv))
end Go.Proofs.YtnaahdcahghldaaGreatDoor
