/- The functions that a function leads to, reckoned off a table. -/
import Derived.Test.YtanfmlmcddanjaaGreatDoorRQaEvA
import GoSem.ClaimFn
set_option linter.all false
namespace Go.Qa
open Go

noncomputable def closB (LT : List (List Nat)) : Nat → List Nat → List Nat → Nat → List Nat
  | 0, _, seen, _ => seen.reverse
  | _ + 1, [], seen, _ => seen.reverse
  | n + 1, f :: todo, seen, mask => sel (Nat.testBit mask f) (closB LT n todo seen mask) (fNat (mask ||| (1 <<< f)) fun m => closB LT n ((LT[f]?).getD [] ++ todo) (f :: seen) m)
theorem closB_eq {P : Program} {LT : List (List Nat)} (h : ∀ f : Nat, (P.funcs[f]?).elim [] P.leadsTo = (LT[f]?).getD []) : ∀ (n : Nat) (todo seen : List Nat) (mask : Nat), (∀ x, Nat.testBit mask x = seen.contains x) → P.closureVia n todo seen = closB LT n todo seen mask
  | 0, _, _, _, _ => rfl
  | _ + 1, [], _, _, _ => rfl
  | n + 1, f :: todo, seen, mask, hm => by
    simp only [Program.closureVia, closB, fNat_eq]
    rw [← hm f, sel_eq]
    split
    · exact closB_eq h n todo seen mask hm
    · rw [h f]
      refine closB_eq h n _ _ _ fun x => ?_
      rw [Nat.testBit_or, hm x, Nat.testBit_shiftLeft, List.contains_cons]
      by_cases q : x = f
      · subst q; simp
      · have : (x == f) = false := by simpa using q
        rw [this]
        by_cases q2 : f ≤ x
        · have : Nat.testBit 1 (x - f) = false := by
            obtain ⟨k, hk⟩ : ∃ k, x - f = k + 1 := ⟨x - f - 1, by omega⟩
            rw [hk, Nat.testBit_succ]
            simp
          simp [this]
        · simp [q2]
theorem leads_ok {P : Program} {LT : List (List Nat)} (h : P.funcs.toList.map P.leadsTo = LT) (f : Nat) : (P.funcs[f]?).elim [] P.leadsTo = (LT[f]?).getD [] := by
  rw [← h, List.getElem?_map, Array.getElem?_toList]
  cases P.funcs[f]? <;> rfl
theorem clos_ok {P : Program} {LT : List (List Nat)} {n : Nat} {f : Nat} {L : List Nat} (h : P.funcs.toList.map P.leadsTo = LT) (hn : 1 + (LT.map fun l => l.length + 1).sum = n) (e : closB LT n [f] [] 0 = L) : P.closure f = L := by
  unfold Program.closure
  have : (P.funcs.toList.map fun g => (P.leadsTo g).length + 1) = LT.map fun l => l.length + 1 := by rw [← h, List.map_map]; rfl
  rw [this, hn, closB_eq (leads_ok h) n [f] [] 0 (fun x => by simp), e]
end Go.Qa
