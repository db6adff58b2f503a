/- The abstract machine: a run that the kernel can reckon: the table of a program's functions; a run by itself. -/
import Derived.Test.YtanfmlmcddanjaaGreatDoorRQaEvE
set_option linter.all false
namespace Go.Qa
open Go Go.RowKit

/-- Each function of a program, compiled where it is called; some are known otherwise. -/
noncomputable def tableOf (P : Program) (hs : FuncId → List Nat) (prims : FuncId → Option (List AV → EH → Option (AV × EH))) : Nat → Option EEnt := fun f =>
  match prims f with
  | some p => some (.prim p)
  | none => match P.funcs[f]? with
    | some fn => sel (fn.name == "runtime.NumGoroutine") none (match eFunc P (List.range fn.ntmps ++ hs f) fn with
      | some e => some (.fn e)
      | none => none)
    | none => none
theorem tableOf_ok {P : Program} {W0 : World} {hs : FuncId → List Nat} {prims : FuncId → Option (List AV → EH → Option (AV × EH))}
    (hp : ∀ f p, prims f = some p → ∀ args h r h', p args h = some (r, h') → ACalls P W0 f args h.list fun r' H' => r' = r ∧ H' = h'.list) : FTOk P W0 (tableOf P hs prims) := by
  intro f e he
  unfold tableOf at he
  split at he
  · rename_i p hpf
    cases he
    exact hp f p hpf
  · split at he
    · rename_i fn hfn
      cases hq : (fn.name == "runtime.NumGoroutine") with
      | true => rw [hq] at he; cases he
      | false =>
        rw [hq, sel_false] at he
        split at he
        · rename_i ef hef
          cases he
          exact ⟨fn, _, hfn, hq, hef⟩
        · cases he
    · cases he

/-- A value whose only addresses are of cells that never turn. -/
def treeF : Nat → AV → Bool
  | 0, _ => false
  | n + 1, x => match x with
    | .int .. | .bool _ | .str _ | .pl _ => true
    | .eref cs => cs.all (treeF n)
    | .row none _ _ es => es.all (treeF n)
    | .iface _ y => treeF n y
    | .agg cs | .tup cs => cs.all (treeF n)
    | _ => false
theorem treeF_getD {n : Nat} {cs : List AV} (h : cs.all (treeF n) = true) {j : Nat} (hj : j < cs.length) : treeF n (cs.getD j .any) = true := by
  rw [List.all_eq_true] at h
  rw [List.getD_eq_getElem?_getD, List.getElem?_eq_getElem hj]
  exact h _ (List.getElem_mem hj)
theorem treeF_cells {n : Nat} {x : AV} {cs : List AV} (h : treeF n x = true) (hc : x.cells? = some cs) {j : Nat} (hj : j < cs.length) : ∃ m, treeF m (cs.getD j .any) = true := by
  cases n with
  | zero => cases h
  | succ n =>
    cases x with
    | agg es =>
      simp only [AV.cells?] at hc
      split at hc
      · cases hc
        exact ⟨n, treeF_getD h hj⟩
      · cases hc
    | _ =>
      simp only [AV.cells?] at hc
      split at hc
      · cases hc
        have : j = 0 := by simp at hj; omega
        subst this
        exact ⟨n + 1, h⟩
      · cases hc
theorem VRel.tree {G G' : Ghost} (him : ∀ B o v, G.imm B o = some v → G'.imm B o = some v) {x : AV} {v : Value} (h : VRel G x v) : ∀ n, treeF n x = true → VRel G' x v := by
  induction h with
  | int k n => exact fun _ _ => .int k n
  | bool b => exact fun _ _ => .bool b
  | str s hl => exact fun _ _ => .str s hl
  | pl v => exact fun _ _ => .pl v
  | eref cs B o cv hm hv ih =>
    intro n hn
    cases n with
    | zero => cases hn
    | succ n => exact .eref cs B o cv (fun j hj => him _ _ _ (hm j hj)) (fun j hj => ih j hj n (treeF_getD hn hj))
  | row own full esz es a cap cv hs he hm hv hc hx hf ho ih =>
    intro n hn
    cases n with
    | zero => cases hn
    | succ n =>
      cases own with
      | some _ => cases hn
      | none =>
        refine .row none full esz es a cap cv hs he (fun i j hi hj => him _ _ _ (hm i j hi hj)) (fun i j hi hj => ?_) hc hx hf (fun t n q => by cases q)
        obtain ⟨cs, hcs, hcl⟩ := he i hi
        obtain ⟨m, hm'⟩ := treeF_cells (treeF_getD hn hi) hcs (j := j) (by omega)
        refine ih i j hi hj m ?_
        have : (es.getD i .any).cells = cs := by simp only [AV.cells, hcs, Option.getD_some]
        rw [this]; exact hm'
  | iface t x v h ih =>
    intro n hn
    cases n with
    | zero => cases hn
    | succ n => exact .iface t x v (ih n hn)
  | agg cs vs hl h ih =>
    intro n hn
    cases n with
    | zero => cases hn
    | succ n => exact .agg cs vs hl fun j hj => ih j hj n (treeF_getD hn hj)
  | tup cs vs hl h ih =>
    intro n hn
    cases n with
    | zero => cases hn
    | succ n => exact .tup cs vs hl fun j hj => ih j hj n (treeF_getD hn hj)
  | _ => intro n hn; cases n <;> cases hn
/-- A call whose arguments and result are trees goes by itself, whatever lies around. -/
theorem ACalls.alone {P : Program} {W0 : World} {f : FuncId} {args : List AV} {r : AV} {na nr : Nat} (ha : ∀ a ∈ args, treeF na a = true) (hr : treeF nr r = true) (h : ∀ W1, ACalls P W1 f args [] fun r' _ => r' = r) (H : AHeap) :
    ACalls P W0 f args H fun r' H' => r' = r ∧ H' = H := by
  refine ⟨(h W0).1, fun G w vs hi hv => ?_⟩
  have hi0 : HInv w [] ⟨fun _ => none, G.imm, fun _ _ => none, fun _ => none⟩ w :=
    { base := Below.refl _ _, lt := fun _ _ e => (by cases e), imm := fun _ _ _ e => ⟨.inr (hi.immLt e), (hi.imm _ _ _ e).2⟩, bxs := fun _ _ e => (by cases e), inj := fun _ _ _ e => (by cases e), ats := fun _ _ _ _ e => (by cases e), obj := fun i o e => (by simp at e), cur := fun t _ n _ _ _ _ e => (by simp at e) }
  have hv0 : VRels ⟨fun _ => none, G.imm, fun _ _ => none, fun _ => none⟩ args vs := by
    refine ⟨hv.1, fun j hj => VRel.tree (G := G) (G' := ⟨fun _ => none, G.imm, fun _ _ => none, fun _ => none⟩) (fun _ _ _ e => e) (hv.2 j hj) na ?_⟩
    rw [List.getD_eq_getElem?_getD, List.getElem?_eq_getElem hj]
    exact ha _ (List.getElem_mem hj)
  refine ((h w).2 _ w vs hi0 hv0).mono fun e w' ⟨v, r', H', G', e1, hq, hn, hi', hv'⟩ => ?_
  subst hq
  have hs : w.heap.size ≤ w'.heap.size := hi'.base.size
  have hk : ∀ B, B < w.heap.size → w'.heap[B]? = w.heap[B]? := fun B hB => hi'.base.block B hB
  have hszN : ∀ B, B < w.heap.size → G'.sz B = none := fun B hB => by
    rcases q : G'.sz B with _ | n
    · rfl
    · have := (hi'.lt B n q).1; omega
  -- the outer ghost, with the inner's immutable cells
  have hold : ∀ B o, B < w.heap.size → G'.imm B o = G.imm B o := fun B o hB => by
    rcases q : G'.imm B o with _ | v
    · rcases q2 : G.imm B o with _ | v2
      · rfl
      · rw [hn.le.imm B o v2 q2] at q; cases q
    · rcases hn.le.immf B o v q with q2 | q2
      · exact q2.symm
      · exact absurd (hszN B hB) q2
  have hszG : ∀ B, G'.sz B ≠ none → (if B < w.heap.size then G.sz B else G'.sz B) ≠ none := fun B q => by
    rw [if_neg (fun q2 => q (hszN B q2))]; exact q
  have hszO : ∀ B n, G.sz B = some n → (if B < w.heap.size then G.sz B else G'.sz B) = some n := fun B n e => by rw [if_pos (hi.lt B n e).2]; exact e
  have hszO' : ∀ B, G.sz B ≠ none → (if B < w.heap.size then G.sz B else G'.sz B) ≠ none := fun B e => by
    obtain ⟨n, hn⟩ := Option.ne_none_iff_exists'.1 e
    rw [hszO B n hn]; simp
  have hle : G.le ⟨G.bx, G'.imm, G.at_, fun B => if B < w.heap.size then G.sz B else G'.sz B⟩ := by
    refine ⟨fun _ _ e => e, fun B o v e => hn.le.imm B o v e, fun _ _ _ e => e, hszO, fun B o v e => ?_⟩
    rcases hn.le.immf B o v e with q | q
    · exact .inl q
    · exact .inr (hszG B q)
  refine ⟨v, r', H, ⟨G.bx, G'.imm, G.at_, fun B => if B < w.heap.size then G.sz B else G'.sz B⟩, e1, ⟨rfl, rfl⟩, ?_, ?_, VRel.tree (G := G') (G' := ⟨G.bx, G'.imm, G.at_, fun B => if B < w.heap.size then G.sz B else G'.sz B⟩) (fun _ _ _ e => e) hv' nr hr⟩
  · refine ⟨hle, hs, fun B hB _ => hk B hB, fun B n q => ?_⟩
    simp only at q
    split at q
    · exact .inl q
    · right; omega
  · refine { base := ?_, lt := fun B n q => ?_, imm := fun B o v q => ?_, bxs := fun i B q => ?_, inj := hi.inj, ats := fun t n B E q => ?_, obj := fun i o q => ?_, cur := hi.cur }
    · exact hi.base.trans (hi'.base.mono hi.base.size)
    · simp only at q
      split at q
      · have := hi.lt B n q; omega
      · have := hi'.lt B n q; have := hi.base.size; omega
    · refine ⟨?_, (hi'.imm B o v q).2⟩
      rcases hn.le.immf B o v q with q2 | q2
      · rcases (hi.imm B o v q2).1 with q3 | q3
        · exact .inl (hszO' B q3)
        · exact .inr q3
      · exact .inl (hszG B q2)
    · have h3 := hi.bxs i B q
      refine ⟨h3.1, hszO' B h3.2.1, fun hl o => ?_⟩
      obtain ⟨n, hn2⟩ := Option.ne_none_iff_exists'.1 h3.2.1
      exact (hold B o (hi.lt B n hn2).2).trans (h3.2.2 hl o)
    · have h3 := hi.ats t n B E q
      exact ⟨h3.1, hszO' B h3.2.1, h3.2.2⟩
    · exact ORel.ext hi hle (fun B n o hB => hold B o (hi.lt B n hB).2) (fun B n hB => hk B (hi.lt B n hB).2) (hi.obj i o q)
/-- A run that the kernel has reckoned. -/
noncomputable def runsTo (P : Program) (FT : Nat → Option EEnt) (n : Nat) (f : FuncId) (args : List AV) (b : Bool) : Bool :=
  match goOf P FT (ae P FT n) true f args ⟨.e, 0⟩ with
  | some (.bool c, _) => c == b
  | _ => false
theorem runsTo_calls {P : Program} {W0 : World} {FT : Nat → Option EEnt} (hft : ∀ W, FTOk P W FT) {n : Nat} {f : FuncId} {args : List AV} {b : Bool} {na : Nat} (ha : ∀ a ∈ args, treeF na a = true) (e : runsTo P FT n f args b = true) (H : AHeap) :
    ACalls P W0 f args H fun r' H' => r' = .bool b ∧ H' = H := by
  unfold runsTo at e
  split at e
  · rename_i c h' he
    rw [beq_iff_eq] at e
    subst e
    refine ACalls.alone (nr := 1) ha rfl (fun W1 => ?_) H
    exact (ae_call (hft W1) he).mono fun r' H' q => q.1
  · cases e
end Go.Qa
