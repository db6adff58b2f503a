/- The abstract machine: calls whose arguments and results are trees, reckoned once and known from then on. -/
import Derived.Test.YtnpkhnlcpeebcaaGreatDoorQs9
import Derived.Test.YtnpkhnlcpeebcaaGreatDoorProg
set_option linter.all false
namespace Go.Qa
open Go Go.RowKit

/-- The value at hand is the recorded one, but for its rows' owners. -/
def sameU : Nat → AV → AV → Bool
  | 0, _, _ => false
  | n + 1, x, y => match x, y with
    | .int k a, .int k' b => decide (k = k') && decide (a = b)
    | .bool a, .bool b => a == b
    | .str a, .str b => a == b
    | .pl a, .pl b => plSame a b
    | .eref a, .eref b => sameL (sameU n) a b
    | .row none f e es, .row _ f' e' es' => (!f || f') && Nat.beq e e' && sameL (sameU n) es es'
    | .iface t a, .iface t' b => Nat.beq t t' && sameU n a b
    | .agg a, .agg b => sameL (sameU n) a b
    | .tup a, .tup b => sameL (sameU n) a b
    | _, _ => false
theorem sameL_getD {f : AV → AV → Bool} : ∀ {xs ys : List AV}, sameL f xs ys = true → xs.length = ys.length ∧ ∀ j, j < xs.length → f (xs.getD j .any) (ys.getD j .any) = true
  | [], [], _ => ⟨rfl, fun j hj => by simp at hj⟩
  | x :: xs, y :: ys, e => by
    simp only [sameL, Bool.and_eq_true] at e
    have ih := sameL_getD e.2
    refine ⟨by simp [ih.1], fun j hj => ?_⟩
    cases j with
    | zero => simpa using e.1
    | succ j => simpa using ih.2 j (by simpa using hj)
  | [], _ :: _, e => by cases e
  | _ :: _, [], e => by cases e
theorem sameU_one {n : Nat} {x y : AV} (e : sameU n x y = true) : x.one = y.one := by
  cases n with
  | zero => cases e
  | succ n =>
    unfold sameU at e
    split at e <;> first | rfl | (rw [plSame_eq e]; done) | cases e
theorem sameU_all {n : Nat} : ∀ {xs ys : List AV}, sameL (sameU n) xs ys = true → xs.all AV.one = ys.all AV.one
  | [], [], _ => rfl
  | x :: xs, y :: ys, e => by
    simp only [sameL, Bool.and_eq_true] at e
    simp only [List.all_cons, sameU_one e.1, sameU_all e.2]
  | [], _ :: _, e => by cases e
  | _ :: _, [], e => by cases e
theorem sameL_mono {f g : AV → AV → Bool} (h : ∀ x y, f x y = true → g x y = true) : ∀ {xs ys : List AV}, sameL f xs ys = true → sameL g xs ys = true
  | [], [], _ => rfl
  | x :: xs, y :: ys, e => by
    simp only [sameL, Bool.and_eq_true] at e ⊢
    exact ⟨h _ _ e.1, sameL_mono h e.2⟩
  | [], _ :: _, e => by cases e
  | _ :: _, [], e => by cases e
theorem sameU_mono : ∀ {n : Nat} {x y : AV}, sameU n x y = true → sameU (n + 1) x y = true
  | 0, _, _, e => by cases e
  | n + 1, x, y, e => by
    have ih := @sameU_mono n
    have ihl : ∀ {xs ys : List AV}, sameL (sameU n) xs ys = true → sameL (sameU (n + 1)) xs ys = true := fun q => sameL_mono (fun _ _ => ih) q
    unfold sameU at e
    split at e <;> unfold sameU <;> simp only [Bool.and_eq_true] at e ⊢ <;> first | exact e | exact ihl e | exact ⟨e.1, ihl e.2⟩ | exact ⟨e.1, ih e.2⟩ | cases e
theorem sameU_cells {n : Nat} {x y : AV} {cs' : List AV} (e : sameU n x y = true) (hc : y.cells? = some cs') :
    ∃ cs m, x.cells? = some cs ∧ cs.length = cs'.length ∧ ∀ j, j < cs.length → sameU m (cs.getD j .any) (cs'.getD j .any) = true := by
  have e0 := e
  have single : x.cells? = (if x.one then some [x] else none) → y.cells? = (if y.one then some [y] else none) → ∃ cs m, x.cells? = some cs ∧ cs.length = cs'.length ∧ ∀ j, j < cs.length → sameU m (cs.getD j .any) (cs'.getD j .any) = true := by
    intro h1 h2
    rw [h2] at hc
    split at hc
    · rename_i h3
      cases hc
      refine ⟨[x], n, by rw [h1, sameU_one e0, if_pos h3], rfl, fun j hj => ?_⟩
      have : j = 0 := by simp at hj; omega
      subst this
      exact e0
    · cases hc
  cases n with
  | zero => cases e
  | succ n =>
    unfold sameU at e
    split at e <;> try (exact single rfl rfl)
    · rename_i a b
      simp only [AV.cells?] at hc
      split at hc
      · rename_i h3
        cases hc
        have h4 := sameL_getD e
        exact ⟨a, n, by simp only [AV.cells?]; rw [sameU_all e, if_pos h3], h4.1, h4.2⟩
      · cases hc
    · cases e
theorem sameU_rel {G : Ghost} : ∀ (n : Nat) {x y : AV} {v : Value}, sameU n x y = true → VRel G y v → VRel G x v
  | 0, _, _, _, e, _ => by cases e
  | n + 1, x, y, v, e, h => by
    have ih := @sameU_rel G n
    unfold sameU at e
    split at e
    · simp only [Bool.and_eq_true, decide_eq_true_eq] at e; rw [e.1, e.2]; exact h
    · rw [beq_iff_eq] at e; rw [e]; exact h
    · rw [beq_iff_eq] at e; rw [e]; exact h
    · rw [plSame_eq e]; exact h
    · rename_i a b
      have h4 := sameL_getD e
      cases h with
      | eref _ B o cv hm hv => exact .eref a B o cv (fun j hj => hm j (by omega)) fun j hj => ih (h4.2 j hj) (hv j (by omega))
    · rename_i f sz es o' f' sz' es'
      simp only [Bool.and_eq_true, Nat.beq_eq] at e
      have h4 := sameL_getD e.2
      obtain ⟨⟨e1, e2⟩, e3⟩ := e
      subst e2
      cases h with
      | row _ _ _ _ a cap cv hs he hm hv hc hx hf ho =>
        rw [← h4.1]
        refine .row none f sz es a cap cv (fun q => hs (by omega)) (fun i hi => ?_) (fun i j hi hj => hm i j (by omega) hj) (fun i j hi hj => ?_) (by omega) hx (fun q => ?_) (fun t n q => by cases q)
        · obtain ⟨cs', hc1, hc2⟩ := he i (by omega)
          obtain ⟨cs, m, k1, k2, k3⟩ := sameU_cells (h4.2 i hi) hc1
          exact ⟨cs, k1, by omega⟩
        · obtain ⟨cs', hc1, hc2⟩ := he i (by omega)
          have hvv := hv i j (by omega) hj
          have l1 : (es'.getD i .any).cells = cs' := by simp only [AV.cells, hc1, Option.getD_some]
          rw [l1] at hvv
          have hi4 := h4.2 i hi
          -- the cells of one element: of the element itself, or of an aggregate
          generalize hX : es.getD i .any = X at hi4 ⊢
          generalize hY : es'.getD i .any = Y at hi4 hc1
          cases n with
          | zero => cases hi4
          | succ n =>
            by_cases hagg : ∃ b, Y = .agg b
            · obtain ⟨b, rfl⟩ := hagg
              cases X <;> simp only [sameU] at hi4 <;> try (cases hi4; done)
              rename_i a'
              simp only [AV.cells?] at hc1
              split at hc1
              · rename_i h3
                cases hc1
                have h5 := sameL_getD hi4
                have l2 : (AV.agg a').cells = a' := by simp only [AV.cells, AV.cells?]; rw [sameU_all hi4, if_pos h3]; rfl
                rw [l2]
                have h6 := h5.2 j (by rw [h5.1]; omega)
                refine ih (x := a'.getD j .any) (y := cs'.getD j .any) ?_ hvv
                exact sameU_mono h6
              · cases hc1
            · have l3 : Y.cells? = (if Y.one then some [Y] else none) := by
                cases Y <;> first | rfl | exact absurd ⟨_, rfl⟩ hagg
              have l4 : X.cells? = (if X.one then some [X] else none) := by
                cases X <;> first | rfl | (cases Y <;> first | (simp only [sameU] at hi4; cases hi4; done) | exact absurd ⟨_, rfl⟩ hagg)
              rw [l3] at hc1
              split at hc1
              · rename_i h3
                cases hc1
                have : j = 0 := by simp at hc2; omega
                subst this
                have l5 : X.cells = [X] := by simp only [AV.cells, l4]; rw [sameU_one hi4, if_pos h3]; rfl
                rw [l5]
                exact ih hi4 hvv
              · cases hc1
        · rw [q] at e1
          have := hf (by simpa using e1)
          omega
    · rename_i t a t' b
      simp only [Bool.and_eq_true, Nat.beq_eq] at e
      cases h with
      | iface _ _ v h => rw [e.1]; exact .iface _ _ _ (ih e.2 h)
    · rename_i a b
      have h4 := sameL_getD e
      cases h with
      | agg _ vs hl h => exact .agg a vs (by omega) fun j hj => ih (h4.2 j hj) (h j (by omega))
    · rename_i a b
      have h4 := sameL_getD e
      cases h with
      | tup _ vs hl h => exact .tup a vs (by omega) fun j hj => ih (h4.2 j hj) (h j (by omega))
    · cases e
theorem sameU_rels {G : Ghost} {n : Nat} {xs ys : List AV} {vs : List Value} (e : sameL (sameU n) xs ys = true) (h : VRels G ys vs) : VRels G xs vs := by
  have h4 := sameL_getD e
  exact ⟨by rw [h.1, h4.1], fun j hj => sameU_rel n (h4.2 j hj) (h.2 j (by omega))⟩

/-- A call of trees that was reckoned. -/
noncomputable def memoRun (P : Program) (FT : Nat → Option EEnt) (n : Nat) (f : FuncId) (args : List AV) (lit : AV) : Bool :=
  args.all (treeF 100) && treeF 100 lit && (match goOf P FT (ae P FT n) true f args ⟨.e, 0⟩ with
    | some (r, _) => sameU 1000 lit r
    | none => false)
/-- It answers so, whatever lies around. -/
def Knows (P : Program) (f : FuncId) (args : List AV) (r : AV) : Prop := ∀ W0 H, ACalls P W0 f args H fun r' H' => r' = r ∧ H' = H
theorem memo_knows {P : Program} {FT : Nat → Option EEnt} (hft : ∀ W, FTOk P W FT) {n : Nat} {f : FuncId} {args : List AV} {lit : AV} (e : memoRun P FT n f args lit = true) : Knows P f args lit := by
  intro W0 H
  unfold memoRun at e
  simp only [Bool.and_eq_true, List.all_eq_true] at e
  obtain ⟨⟨h1, h2⟩, e⟩ := e
  split at e
  · rename_i r h' hg
    refine ACalls.alone (na := 100) (nr := 100) h1 h2 (fun W1 => ?_) H
    have hc := ae_call (hft W1) hg
    refine ⟨hc.1, fun G w vs hi hv => (hc.2 G w vs hi hv).mono fun e w' ⟨v, r', H', G', e1, hq, hn, hi', hv'⟩ => ?_⟩
    obtain ⟨rfl, _⟩ := hq
    exact ⟨v, lit, H', G', e1, rfl, hn, hi', sameU_rel _ e hv'⟩
  · cases e

/-- The recorded calls of a function. -/
noncomputable def memoP : List (List AV × AV) → List AV → EH → Option (AV × EH)
  | [], _, _ => none
  | (a, r) :: t, args, h => sel (sameL (sameU 1000) a args) (some (r, h)) (memoP t args h)
theorem memoP_ok {P : Program} {W0 : World} {f : FuncId} : ∀ {es : List (List AV × AV)}, (∀ p ∈ es, Knows P f p.1 p.2) → ∀ args h r h', memoP es args h = some (r, h') → ACalls P W0 f args h.list fun r' H' => r' = r ∧ H' = h'.list
  | [], _, args, h, r, h', e => by cases e
  | (a, q) :: t, hk, args, h, r, h', e => by
    simp only [memoP] at e
    rw [sel_eq] at e
    split at e
    · rename_i hs
      cases e
      have hc := hk (a, q) (by simp) W0 h.list
      exact ⟨hc.1, fun G w vs hi hv => hc.2 G w vs hi (sameU_rels hs hv)⟩
    · exact memoP_ok (fun p hp => hk p (by simp [hp])) args h r h' e
/-- Which functions are known by records. -/
noncomputable def memoT (M : List (Nat × List (List AV × AV))) (f : Nat) : Option (List AV → EH → Option (AV × EH)) :=
  match M with
  | [] => none
  | (g, es) :: t => sel (Nat.beq g f) (some (memoP es)) (memoT t f)
theorem memoT_ok {P : Program} {W0 : World} : ∀ {M : List (Nat × List (List AV × AV))}, (∀ m ∈ M, ∀ p ∈ m.2, Knows P m.1 p.1 p.2) → ∀ f p, memoT M f = some p → ∀ args h r h', p args h = some (r, h') → ACalls P W0 f args h.list fun r' H' => r' = r ∧ H' = h'.list
  | [], _, f, p, e => by cases e
  | (g, es) :: t, hk, f, p, e => by
    simp only [memoT] at e
    rw [sel_eq] at e
    split at e
    · rename_i hg
      cases e
      rw [Nat.beq_eq] at hg
      subst hg
      exact fun args h r h' q => memoP_ok (hk (g, es) (by simp)) args h r h' q
    · exact memoT_ok (fun m hm => hk m (by simp [hm])) f p e
end Go.Qa
/- The abstract machine: what && and || ask for; contracts of the library turned to the abstract machine. -/
namespace Go.Qa
open Go Go.RowKit

/-- A right operand that is asked only if the left one is false. -/
theorem or_i {t b : Bool} {K : EH → AV → Prop} {B : (AV → EH → Prop) → Prop} {h : EH} (hB : t = false → ∀ J : AV → EH → Prop, (∀ h', Ext h h' → J (.bool b) h') → B J) (hK : ∀ h', Ext h h' → K h' (.bool (t || b))) :
    ∃ J : AV → EH → Prop, (∀ v h', J v h' → pk (.bool t) (.bool true) v (K h')) ∧ cg (.bool t) false (B J) (J (.pl undef) h) := by
  refine ⟨fun v h' => Ext h h' ∧ (t = false → v = .bool b), fun v h' j => ?_, ?_⟩
  · cases t with
    | true => rw [pk_true]; exact hK h' j.1
    | false =>
      rw [j.2 rfl, pk_false]
      exact hK h' j.1
  · rw [cg_bf]
    exact ⟨fun q => hB q _ fun h' e => ⟨e, fun _ => rfl⟩, fun q => ⟨.refl h, fun z => by rw [q] at z; cases z⟩⟩
/-- A right operand that is asked only if the left one is true. -/
theorem and_i {t b : Bool} {K : EH → AV → Prop} {B : (AV → EH → Prop) → Prop} {h : EH} (hB : t = true → ∀ J : AV → EH → Prop, (∀ h', Ext h h' → J (.bool b) h') → B J) (hK : ∀ h', Ext h h' → K h' (.bool (t && b))) :
    ∃ J : AV → EH → Prop, (∀ v h', J v h' → pk (.bool t) v (.bool false) (K h')) ∧ cg (.bool t) true (B J) (J (.pl undef) h) := by
  refine ⟨fun v h' => Ext h h' ∧ (t = true → v = .bool b), fun v h' j => ?_, ?_⟩
  · cases t with
    | false => rw [pk_false]; exact hK h' j.1
    | true =>
      rw [j.2 rfl, pk_true]
      exact hK h' j.1
  · rw [cg_bt]
    exact ⟨fun q => hB q _ fun h' e => ⟨e, fun _ => rfl⟩, fun q => ⟨.refl h, fun z => by rw [q] at z; cases z⟩⟩
/-- A join where the value is known. -/
theorem join_i {x : AV} {REST : AV → EH → Prop} {B : (AV → EH → Prop) → Prop} {h : EH} (hB : ∀ J : AV → EH → Prop, (∀ h', Ext h h' → J x h') → B J) (hR : ∀ h', Ext h h' → REST x h') :
    ∃ J : AV → EH → Prop, (∀ v h', J v h' → REST v h') ∧ B J :=
  ⟨fun v h' => Ext h h' ∧ v = x, fun v h' j => by rw [j.2]; exact hR _ j.1, hB _ fun h' e => ⟨e, rfl⟩⟩
/-- A loop by a number that falls. -/
theorem loop1 {I : AV → EH → Prop} {B : (Nat → AV → EH → Prop) → Nat → AV → EH → Prop} {m : AV → EH → Nat} {v0 : AV} {h0 : EH} (h0' : I v0 h0)
    (hI : ∀ (J : Nat → AV → EH → Prop) n v h, I v h → m v h = n → (∀ v' h', I v' h' → m v' h' < n → ∃ k, k < n ∧ J k v' h') → B J n v h) :
    ∃ (J : Nat → AV → EH → Prop) (n : Nat), J n v0 h0 ∧ ∀ n v h, J n v h → B J n v h :=
  ⟨fun n v h => I v h ∧ m v h = n, _, ⟨h0', rfl⟩, fun n v h j => hI _ n v h j.1 j.2 fun v' h' a b => ⟨_, b, a, rfl⟩⟩

section
variable {P : Program} {W0 : World} {h : EH} {k : AV → EH → Prop}
theorem SCalls.of_knows {f : FuncId} {args : List AV} {r : AV} (e : Knows P f args r) (hk : k r h) : SCalls P W0 f args h k :=
  (e W0 h.list).mono fun r' H' ⟨e1, e2⟩ => ⟨h, e2, by rw [e1]; exact hk⟩
/-- A function of the library that leaves the blocks that are there. -/
theorem SCalls.of_lib {f : FuncId} {args : List AV} {r : AV} (hE : Enters P f)
    (hc : ∀ G w vs, HInv W0 h.list G w → VRels G args vs → Calls P f vs.toArray w fun e w' => ∃ v, e = .returned v ∧ VRel G r v ∧ Below w.heap.size w w') (hk : k r h) : SCalls P W0 f args h k :=
  ⟨hE, fun G w vs hi hv => (hc G w vs hi hv).mono fun e w' ⟨v, e1, hr, hb⟩ =>
    let ⟨a, b⟩ := frame_below' hi hb
    ⟨v, r, h.list, G, e1, ⟨h, rfl, hk⟩, b, a, hr⟩⟩
where
  frame_below' {H : AHeap} {G : Ghost} {w w' : World} (h : HInv W0 H G w) (hb : Below w.heap.size w w') : HInv W0 H G w' ∧ Next G w G w' :=
    ⟨h.frame (h.base.trans (hb.mono h.base.size)) hb.size fun B n q => hb.block B (h.lt B n q).2, ⟨.refl G, hb.size, fun B hB _ => hb.block B hB, fun _ _ q => .inl q⟩⟩
/-- The elements of a row of strings. -/
theorem strs_flat : ∀ (l : List (List UInt8)), flat (l.map AV.str) = l.map AV.str
  | [] => rfl
  | x :: r => by
    have := strs_flat r
    simp only [flat, List.map_cons, List.flatMap_cons] at this ⊢
    rw [this]; rfl
theorem VRels.strs (G : Ghost) : ∀ (l : List (List UInt8)), (∀ s ∈ l, s.length ≤ maxLen) → VRels G (l.map AV.str) (l.map fun s => Value.string ⟨s.toArray⟩)
  | [], _ => .nil G
  | x :: r, h => .cons (.str x (h x (by simp))) (VRels.strs G r fun s hs => h s (by simp [hs]))
/-- A function of the library that answers a new slice of strings. -/
theorem SCalls.of_strs {f : FuncId} {args : List AV} {l : List (List UInt8)} (hE : Enters P f) (hl : ∀ s ∈ l, s.length ≤ maxLen) (hn : l.length ≤ maxLen) (ty : TypeId)
    (hc : ∀ G w vs, HInv W0 h.list G w → VRels G args vs → Calls P f vs.toArray w fun e w' => e = .returned (.slice (some ⟨w.heap.size, 0, none⟩) l.length l.length) ∧ w' = w.alloc (.cells ((l.map fun s => Value.string ⟨s.toArray⟩).toArray) ty))
    (hk : k (.row none true 1 (l.map AV.str)) h) : SCalls P W0 f args h k := by
  refine ⟨hE, fun G w vs hi hv => (hc G w vs hi hv).mono fun e w' ⟨e1, e2⟩ => ?_⟩
  have hes : ∀ e ∈ l.map AV.str, e.isSize 1 = true := fun e he => by
    obtain ⟨s, _, rfl⟩ := List.mem_map.1 he
    rfl
  obtain ⟨G', hnx, hiv, hrow⟩ := hi.newRow (l.map AV.str) 1 (l.map fun s => Value.string ⟨s.toArray⟩) [] ty l.length hes (by rw [strs_flat]; exact VRels.strs G l hl) (by simp) (by simp) hn false (fun _ => by simp) 0
  rw [List.append_nil] at hnx hiv
  simp only [Bool.false_eq_true, if_false, List.length_map, Bool.not_false] at hrow hiv
  subst e2
  exact ⟨_, _, h.list, G', e1, ⟨h, rfl, hk⟩, hnx, hiv, hrow⟩
end
end Go.Qa
/- Words of the seat. -/
namespace Go.Proofs.YtnpkhnlcpeebcaaGreatDoor
open Go Go.Qa Go.Proofs
noncomputable def ca (W0 : World) (g : Nat) (args : List AV) (h : EH) (k : AV → EH → Prop) : Prop := callS Tryz.prog W0 (.fn (.func g) [] []) args h k
noncomputable def cf (W0 : World) (f : AV) (args : List AV) (h : EH) (k : AV → EH → Prop) : Prop := callS Tryz.prog W0 f args h k
theorem ca_i {W0 : World} {g : Nat} {args : List AV} {h : EH} {k : AV → EH → Prop} (q : args.all AV.glob = true) (e : SCalls Tryz.prog W0 g args h k) : ca W0 g args h k := callS_i q e
theorem cf_i {W0 : World} {g : Nat} {args : List AV} {h : EH} {k : AV → EH → Prop} (q : args.all AV.glob = true) (e : SCalls Tryz.prog W0 g args h k) : cf W0 (.fn (.func g) [] []) args h k := callS_i q e
end Go.Proofs.YtnpkhnlcpeebcaaGreatDoor
