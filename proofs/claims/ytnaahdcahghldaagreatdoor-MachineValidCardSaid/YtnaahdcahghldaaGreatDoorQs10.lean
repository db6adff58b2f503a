/- The abstract machine: calls whose arguments and results are trees, reckoned once and known from then on. -/
import Derived.Test.YtnaahdcahghldaaGreatDoorQs9
set_option linter.all false
namespace Go.Qa
open Go Go.RowKit

/-- The value at hand is the recorded one, but for its rows' owners. -/
def sameU : Nat → AV → AV → Bool
  | 0, _, _ => false
  | n + 1, x, y => match x, y with
    | .int k a, .int k' b => decide (k = k') && decide (a = b)
    | .bool a, .bool b => a == b
    | .str a, .str b => a == b
    | .pl a, .pl b => plSame a b
    | .eref a, .eref b => sameL (sameU n) a b
    | .row none f e es, .row _ f' e' es' => (!f || f') && Nat.beq e e' && sameL (sameU n) es es'
    | .iface t a, .iface t' b => Nat.beq t t' && sameU n a b
    | .agg a, .agg b => sameL (sameU n) a b
    | .tup a, .tup b => sameL (sameU n) a b
    | _, _ => false
theorem sameL_getD {f : AV → AV → Bool} : ∀ {xs ys : List AV}, sameL f xs ys = true → xs.length = ys.length ∧ ∀ j, j < xs.length → f (xs.getD j .any) (ys.getD j .any) = true
  | [], [], _ => ⟨rfl, fun j hj => by simp at hj⟩
  | x :: xs, y :: ys, e => by
    simp only [sameL, Bool.and_eq_true] at e
    have ih := sameL_getD e.2
    refine ⟨by simp [ih.1], fun j hj => ?_⟩
    cases j with
    | zero => simpa using e.1
    | succ j => simpa using ih.2 j (by simpa using hj)
  | [], _ :: _, e => by cases e
  | _ :: _, [], e => by cases e
theorem sameU_one {n : Nat} {x y : AV} (e : sameU n x y = true) : x.one = y.one := by
  cases n with
  | zero => cases e
  | succ n =>
    unfold sameU at e
    split at e <;> first | rfl | (rw [plSame_eq e]; done) | cases e
theorem sameU_all {n : Nat} : ∀ {xs ys : List AV}, sameL (sameU n) xs ys = true → xs.all AV.one = ys.all AV.one
  | [], [], _ => rfl
  | x :: xs, y :: ys, e => by
    simp only [sameL, Bool.and_eq_true] at e
    simp only [List.all_cons, sameU_one e.1, sameU_all e.2]
  | [], _ :: _, e => by cases e
  | _ :: _, [], e => by cases e
theorem sameL_mono {f g : AV → AV → Bool} (h : ∀ x y, f x y = true → g x y = true) : ∀ {xs ys : List AV}, sameL f xs ys = true → sameL g xs ys = true
  | [], [], _ => rfl
  | x :: xs, y :: ys, e => by
    simp only [sameL, Bool.and_eq_true] at e ⊢
    exact ⟨h _ _ e.1, sameL_mono h e.2⟩
  | [], _ :: _, e => by cases e
  | _ :: _, [], e => by cases e
theorem sameU_mono : ∀ {n : Nat} {x y : AV}, sameU n x y = true → sameU (n + 1) x y = true
  | 0, _, _, e => by cases e
  | n + 1, x, y, e => by
    have ih := @sameU_mono n
    have ihl : ∀ {xs ys : List AV}, sameL (sameU n) xs ys = true → sameL (sameU (n + 1)) xs ys = true := fun q => sameL_mono (fun _ _ => ih) q
    unfold sameU at e
    split at e <;> unfold sameU <;> simp only [Bool.and_eq_true] at e ⊢ <;> first | exact e | exact ihl e | exact ⟨e.1, ihl e.2⟩ | exact ⟨e.1, ih e.2⟩ | cases e
theorem sameU_cells {n : Nat} {x y : AV} {cs' : List AV} (e : sameU n x y = true) (hc : y.cells? = some cs') :
    ∃ cs m, x.cells? = some cs ∧ cs.length = cs'.length ∧ ∀ j, j < cs.length → sameU m (cs.getD j .any) (cs'.getD j .any) = true := by
  have e0 := e
  have single : x.cells? = (if x.one then some [x] else none) → y.cells? = (if y.one then some [y] else none) → ∃ cs m, x.cells? = some cs ∧ cs.length = cs'.length ∧ ∀ j, j < cs.length → sameU m (cs.getD j .any) (cs'.getD j .any) = true := by
    intro h1 h2
    rw [h2] at hc
    split at hc
    · rename_i h3
      cases hc
      refine ⟨[x], n, by rw [h1, sameU_one e0, if_pos h3], rfl, fun j hj => ?_⟩
      have : j = 0 := by simp at hj; omega
      subst this
      exact e0
    · cases hc
  cases n with
  | zero => cases e
  | succ n =>
    unfold sameU at e
    split at e <;> try (exact single rfl rfl)
    · rename_i a b
      simp only [AV.cells?] at hc
      split at hc
      · rename_i h3
        cases hc
        have h4 := sameL_getD e
        exact ⟨a, n, by simp only [AV.cells?]; rw [sameU_all e, if_pos h3], h4.1, h4.2⟩
      · cases hc
    · cases e
theorem sameU_rel {G : Ghost} : ∀ (n : Nat) {x y : AV} {v : Value}, sameU n x y = true → VRel G y v → VRel G x v
  | 0, _, _, _, e, _ => by cases e
  | n + 1, x, y, v, e, h => by
    have ih := @sameU_rel G n
    unfold sameU at e
    split at e
    · simp only [Bool.and_eq_true, decide_eq_true_eq] at e; rw [e.1, e.2]; exact h
    · rw [beq_iff_eq] at e; rw [e]; exact h
    · rw [beq_iff_eq] at e; rw [e]; exact h
    · rw [plSame_eq e]; exact h
    · rename_i a b
      have h4 := sameL_getD e
      cases h with
      | eref _ B o cv hm hv => exact .eref a B o cv (fun j hj => hm j (by omega)) fun j hj => ih (h4.2 j hj) (hv j (by omega))
    · rename_i f sz es o' f' sz' es'
      simp only [Bool.and_eq_true, Nat.beq_eq] at e
      have h4 := sameL_getD e.2
      obtain ⟨⟨e1, e2⟩, e3⟩ := e
      subst e2
      cases h with
      | row _ _ _ _ a cap cv hs he hm hv hc hx hf ho =>
        rw [← h4.1]
        refine .row none f sz es a cap cv (fun q => hs (by omega)) (fun i hi => ?_) (fun i j hi hj => hm i j (by omega) hj) (fun i j hi hj => ?_) (by omega) hx (fun q => ?_) (fun t n q => by cases q)
        · obtain ⟨cs', hc1, hc2⟩ := he i (by omega)
          obtain ⟨cs, m, k1, k2, k3⟩ := sameU_cells (h4.2 i hi) hc1
          exact ⟨cs, k1, by omega⟩
        · obtain ⟨cs', hc1, hc2⟩ := he i (by omega)
          have hvv := hv i j (by omega) hj
          have l1 : (es'.getD i .any).cells = cs' := by simp only [AV.cells, hc1, Option.getD_some]
          rw [l1] at hvv
          have hi4 := h4.2 i hi
          -- the cells of one element: of the element itself, or of an aggregate
          generalize hX : es.getD i .any = X at hi4 ⊢
          generalize hY : es'.getD i .any = Y at hi4 hc1
          cases n with
          | zero => cases hi4
          | succ n =>
            by_cases hagg : ∃ b, Y = .agg b
            · obtain ⟨b, rfl⟩ := hagg
              cases X <;> simp only [sameU] at hi4 <;> try (cases hi4; done)
              rename_i a'
              simp only [AV.cells?] at hc1
              split at hc1
              · rename_i h3
                cases hc1
                have h5 := sameL_getD hi4
                have l2 : (AV.agg a').cells = a' := by simp only [AV.cells, AV.cells?]; rw [sameU_all hi4, if_pos h3]; rfl
                rw [l2]
                have h6 := h5.2 j (by rw [h5.1]; omega)
                refine ih (x := a'.getD j .any) (y := cs'.getD j .any) ?_ hvv
                exact sameU_mono h6
              · cases hc1
            · have l3 : Y.cells? = (if Y.one then some [Y] else none) := by
                cases Y <;> first | rfl | exact absurd ⟨_, rfl⟩ hagg
              have l4 : X.cells? = (if X.one then some [X] else none) := by
                cases X <;> first | rfl | (cases Y <;> first | (simp only [sameU] at hi4; cases hi4; done) | exact absurd ⟨_, rfl⟩ hagg)
              rw [l3] at hc1
              split at hc1
              · rename_i h3
                cases hc1
                have : j = 0 := by simp at hc2; omega
                subst this
                have l5 : X.cells = [X] := by simp only [AV.cells, l4]; rw [sameU_one hi4, if_pos h3]; rfl
                rw [l5]
                exact ih hi4 hvv
              · cases hc1
        · rw [q] at e1
          have := hf (by simpa using e1)
          omega
    · rename_i t a t' b
      simp only [Bool.and_eq_true, Nat.beq_eq] at e
      cases h with
      | iface _ _ v h => rw [e.1]; exact .iface _ _ _ (ih e.2 h)
    · rename_i a b
      have h4 := sameL_getD e
      cases h with
      | agg _ vs hl h => exact .agg a vs (by omega) fun j hj => ih (h4.2 j hj) (h j (by omega))
    · rename_i a b
      have h4 := sameL_getD e
      cases h with
      | tup _ vs hl h => exact .tup a vs (by omega) fun j hj => ih (h4.2 j hj) (h j (by omega))
    · cases e
theorem sameU_rels {G : Ghost} {n : Nat} {xs ys : List AV} {vs : List Value} (e : sameL (sameU n) xs ys = true) (h : VRels G ys vs) : VRels G xs vs := by
  have h4 := sameL_getD e
  exact ⟨by rw [h.1, h4.1], fun j hj => sameU_rel n (h4.2 j hj) (h.2 j (by omega))⟩

/-- A call of trees that was reckoned. -/
noncomputable def memoRun (P : Program) (FT : Nat → Option EEnt) (n : Nat) (f : FuncId) (args : List AV) (lit : AV) : Bool :=
  args.all (treeF 100) && treeF 100 lit && (match goOf P FT (ae P FT n) true f args ⟨.e, 0⟩ with
    | some (r, _) => sameU 1000 lit r
    | none => false)
/-- It answers so, whatever lies around. -/
def Knows (P : Program) (f : FuncId) (args : List AV) (r : AV) : Prop := ∀ W0 H, ACalls P W0 f args H fun r' H' => r' = r ∧ H' = H
theorem memo_knows {P : Program} {FT : Nat → Option EEnt} (hft : ∀ W, FTOk P W FT) {n : Nat} {f : FuncId} {args : List AV} {lit : AV} (e : memoRun P FT n f args lit = true) : Knows P f args lit := by
  intro W0 H
  unfold memoRun at e
  simp only [Bool.and_eq_true, List.all_eq_true] at e
  obtain ⟨⟨h1, h2⟩, e⟩ := e
  split at e
  · rename_i r h' hg
    refine ACalls.alone (na := 100) (nr := 100) h1 h2 (fun W1 => ?_) H
    have hc := ae_call (hft W1) hg
    refine ⟨hc.1, fun G w vs hi hv => (hc.2 G w vs hi hv).mono fun e w' ⟨v, r', H', G', e1, hq, hn, hi', hv'⟩ => ?_⟩
    obtain ⟨rfl, _⟩ := hq
    exact ⟨v, lit, H', G', e1, rfl, hn, hi', sameU_rel _ e hv'⟩
  · cases e

/-- The recorded calls of a function. -/
noncomputable def memoP : List (List AV × AV) → List AV → EH → Option (AV × EH)
  | [], _, _ => none
  | (a, r) :: t, args, h => sel (sameL (sameU 1000) a args) (some (r, h)) (memoP t args h)
theorem memoP_ok {P : Program} {W0 : World} {f : FuncId} : ∀ {es : List (List AV × AV)}, (∀ p ∈ es, Knows P f p.1 p.2) → ∀ args h r h', memoP es args h = some (r, h') → ACalls P W0 f args h.list fun r' H' => r' = r ∧ H' = h'.list
  | [], _, args, h, r, h', e => by cases e
  | (a, q) :: t, hk, args, h, r, h', e => by
    simp only [memoP] at e
    rw [sel_eq] at e
    split at e
    · rename_i hs
      cases e
      have hc := hk (a, q) (by simp) W0 h.list
      exact ⟨hc.1, fun G w vs hi hv => hc.2 G w vs hi (sameU_rels hs hv)⟩
    · exact memoP_ok (fun p hp => hk p (by simp [hp])) args h r h' e
/-- Which functions are known by records. -/
noncomputable def memoT (M : List (Nat × List (List AV × AV))) (f : Nat) : Option (List AV → EH → Option (AV × EH)) :=
  match M with
  | [] => none
  | (g, es) :: t => sel (Nat.beq g f) (some (memoP es)) (memoT t f)
theorem memoT_ok {P : Program} {W0 : World} : ∀ {M : List (Nat × List (List AV × AV))}, (∀ m ∈ M, ∀ p ∈ m.2, Knows P m.1 p.1 p.2) → ∀ f p, memoT M f = some p → ∀ args h r h', p args h = some (r, h') → ACalls P W0 f args h.list fun r' H' => r' = r ∧ H' = h'.list
  | [], _, f, p, e => by cases e
  | (g, es) :: t, hk, f, p, e => by
    simp only [memoT] at e
    rw [sel_eq] at e
    split at e
    · rename_i hg
      cases e
      rw [Nat.beq_eq] at hg
      subst hg
      exact fun args h r h' q => memoP_ok (hk (g, es) (by simp)) args h r h' q
    · exact memoT_ok (fun m hm => hk m (by simp [hm])) f p e
end Go.Qa
/- The abstract machine: what && and || ask for; contracts of the library turned to the abstract machine. -/
namespace Go.Qa
open Go Go.RowKit

/-- A right operand that is asked only if the left one is false. -/
theorem or_i {t b : Bool} {K : EH → AV → Prop} {B : (AV → EH → Prop) → Prop} {h : EH} (hB : t = false → ∀ J : AV → EH → Prop, (∀ h', Ext h h' → J (.bool b) h') → B J) (hK : ∀ h', Ext h h' → K h' (.bool (t || b))) :
    ∃ J : AV → EH → Prop, (∀ v h', J v h' → pk (.bool t) (.bool true) v (K h')) ∧ cg (.bool t) false (B J) (J (.pl undef) h) := by
  refine ⟨fun v h' => Ext h h' ∧ (t = false → v = .bool b), fun v h' j => ?_, ?_⟩
  · cases t with
    | true => rw [pk_true]; exact hK h' j.1
    | false =>
      rw [j.2 rfl, pk_false]
      exact hK h' j.1
  · rw [cg_bf]
    exact ⟨fun q => hB q _ fun h' e => ⟨e, fun _ => rfl⟩, fun q => ⟨.refl h, fun z => by rw [q] at z; cases z⟩⟩
/-- A right operand that is asked only if the left one is true. -/
theorem and_i {t b : Bool} {K : EH → AV → Prop} {B : (AV → EH → Prop) → Prop} {h : EH} (hB : t = true → ∀ J : AV → EH → Prop, (∀ h', Ext h h' → J (.bool b) h') → B J) (hK : ∀ h', Ext h h' → K h' (.bool (t && b))) :
    ∃ J : AV → EH → Prop, (∀ v h', J v h' → pk (.bool t) v (.bool false) (K h')) ∧ cg (.bool t) true (B J) (J (.pl undef) h) := by
  refine ⟨fun v h' => Ext h h' ∧ (t = true → v = .bool b), fun v h' j => ?_, ?_⟩
  · cases t with
    | false => rw [pk_false]; exact hK h' j.1
    | true =>
      rw [j.2 rfl, pk_true]
      exact hK h' j.1
  · rw [cg_bt]
    exact ⟨fun q => hB q _ fun h' e => ⟨e, fun _ => rfl⟩, fun q => ⟨.refl h, fun z => by rw [q] at z; cases z⟩⟩
/-- A join where the value is known. -/
theorem join_i {x : AV} {REST : AV → EH → Prop} {B : (AV → EH → Prop) → Prop} {h : EH} (hB : ∀ J : AV → EH → Prop, (∀ h', Ext h h' → J x h') → B J) (hR : ∀ h', Ext h h' → REST x h') :
    ∃ J : AV → EH → Prop, (∀ v h', J v h' → REST v h') ∧ B J :=
  ⟨fun v h' => Ext h h' ∧ v = x, fun v h' j => by rw [j.2]; exact hR _ j.1, hB _ fun h' e => ⟨e, rfl⟩⟩
/-- A loop by a number that falls. -/
theorem loop1 {I : AV → EH → Prop} {B : (Nat → AV → EH → Prop) → Nat → AV → EH → Prop} {m : AV → EH → Nat} {v0 : AV} {h0 : EH} (h0' : I v0 h0)
    (hI : ∀ (J : Nat → AV → EH → Prop) n v h, I v h → m v h = n → (∀ v' h', I v' h' → m v' h' < n → ∃ k, k < n ∧ J k v' h') → B J n v h) :
    ∃ (J : Nat → AV → EH → Prop) (n : Nat), J n v0 h0 ∧ ∀ n v h, J n v h → B J n v h :=
  ⟨fun n v h => I v h ∧ m v h = n, _, ⟨h0', rfl⟩, fun n v h j => hI _ n v h j.1 j.2 fun v' h' a b => ⟨_, b, a, rfl⟩⟩

section
variable {P : Program} {W0 : World} {h : EH} {k : AV → EH → Prop}
theorem SCalls.of_knows {f : FuncId} {args : List AV} {r : AV} (e : Knows P f args r) (hk : k r h) : SCalls P W0 f args h k :=
  (e W0 h.list).mono fun r' H' ⟨e1, e2⟩ => ⟨h, e2, by rw [e1]; exact hk⟩
/-- A function of the library that leaves the blocks that are there. -/
theorem SCalls.of_lib {f : FuncId} {args : List AV} {r : AV} (hE : Enters P f)
    (hc : ∀ G w vs, HInv W0 h.list G w → VRels G args vs → Calls P f vs.toArray w fun e w' => ∃ v, e = .returned v ∧ VRel G r v ∧ Below w.heap.size w w') (hk : k r h) : SCalls P W0 f args h k :=
  ⟨hE, fun G w vs hi hv => (hc G w vs hi hv).mono fun e w' ⟨v, e1, hr, hb⟩ =>
    let ⟨a, b⟩ := frame_below' hi hb
    ⟨v, r, h.list, G, e1, ⟨h, rfl, hk⟩, b, a, hr⟩⟩
where
  frame_below' {H : AHeap} {G : Ghost} {w w' : World} (h : HInv W0 H G w) (hb : Below w.heap.size w w') : HInv W0 H G w' ∧ Next G w G w' :=
    ⟨h.frame (h.base.trans (hb.mono h.base.size)) hb.size fun B n q => hb.block B (h.lt B n q).2, ⟨.refl G, hb.size, fun B hB _ => hb.block B hB, fun _ _ q => .inl q⟩⟩
/-- The elements of a row of strings. -/
theorem strs_flat : ∀ (l : List (List UInt8)), flat (l.map AV.str) = l.map AV.str
  | [] => rfl
  | x :: r => by
    have := strs_flat r
    simp only [flat, List.map_cons, List.flatMap_cons] at this ⊢
    rw [this]; rfl
theorem VRels.strs (G : Ghost) : ∀ (l : List (List UInt8)), (∀ s ∈ l, s.length ≤ maxLen) → VRels G (l.map AV.str) (l.map fun s => Value.string ⟨s.toArray⟩)
  | [], _ => .nil G
  | x :: r, h => .cons (.str x (h x (by simp))) (VRels.strs G r fun s hs => h s (by simp [hs]))
/-- A function of the library that answers a new slice of strings. -/
theorem SCalls.of_strs {f : FuncId} {args : List AV} {l : List (List UInt8)} (hE : Enters P f) (hl : ∀ s ∈ l, s.length ≤ maxLen) (hn : l.length ≤ maxLen) (ty : TypeId)
    (hc : ∀ G w vs, HInv W0 h.list G w → VRels G args vs → Calls P f vs.toArray w fun e w' => e = .returned (.slice (some ⟨w.heap.size, 0, none⟩) l.length l.length) ∧ w' = w.alloc (.cells ((l.map fun s => Value.string ⟨s.toArray⟩).toArray) ty))
    (hk : k (.row none true 1 (l.map AV.str)) h) : SCalls P W0 f args h k := by
  refine ⟨hE, fun G w vs hi hv => (hc G w vs hi hv).mono fun e w' ⟨e1, e2⟩ => ?_⟩
  have hes : ∀ e ∈ l.map AV.str, e.isSize 1 = true := fun e he => by
    obtain ⟨s, _, rfl⟩ := List.mem_map.1 he
    rfl
  obtain ⟨G', hnx, hiv, hrow⟩ := hi.newRow (l.map AV.str) 1 (l.map fun s => Value.string ⟨s.toArray⟩) [] ty l.length hes (by rw [strs_flat]; exact VRels.strs G l hl) (by simp) (by simp) hn false (fun _ => by simp) 0
  rw [List.append_nil] at hnx hiv
  simp only [Bool.false_eq_true, if_false, List.length_map, Bool.not_false] at hrow hiv
  subst e2
  exact ⟨_, _, h.list, G', e1, ⟨h, rfl, hk⟩, hnx, hiv, hrow⟩
end
end Go.Qa
/- The abstract machine: loops over functions, annotated: the round. -/
namespace Go.Qa
open Go Go.RowKit

def roundAG (P : Program) (W0 : World) (b : Nat) (bc : ACode) (Q : AV → AHeap → Prop) : AQ
  | .normal, st, H => match H[b]? with
    | some (.loop false ss ps asg body none) => ∃ st', AS.le st' st ∧ awpG P W0 bc (roundQ b Q) st' (H.set b (.loop true ss ps asg body none))
    | _ => False
  | _, _, _ => False

section
variable {P : Program} {W0 : World} {G0 : Ghost} {w0 : World} {N : Nat} {G : Ghost} {L : Nat → Option Nat} {H : AHeap} {w : World}
theorem ayieldsG_of {b : Nat} {ss : List AV} {ps : List Nat} {asg body : Code} {hs : List Nat} {ac bc : ACode} {args : List AV} {Q : AV → AHeap → Prop} (hb : H[b]? = some (.loop false ss ps asg body none)) (ha : cCode P ss.length hs asg = some ac) (hac : codeCalm asg = true)
    (hbo : cCode P ss.length hs body = some bc) (hbc : codeCalm body = true) (hl : args.length = ps.length) (k : awpG P W0 ac (roundAG P W0 b bc Q) (roundS ss ps args) H) : AYields P W0 b args H Q := by
  intro G w l vs n hi hbx hv
  obtain ⟨B', r, p1, p2, p3, p4, p5, p6, p7, p8⟩ := hi.obj b _ hb
  rw [hbx] at p1; cases p1
  have base : Rel W0 G w ss.length G (fun _ => none) { s := fun i => ss.getD i .any, loc := fun _ => none } H { tmps := r.tmps, defers := [] } w := by
    refine { bw := hi.base.size, next := .refl G w, inv := hi, defers := .nil _ _ _, size := by simpa using p8.1, slots := fun t ht => .of ?_, locs := fun t cs e => by simp at e, linj := fun t t' B e => by simp at e, lrefs := fun t i off ht e => ?_, pnds := .nil fun _ => rfl }
    · have := p8.2 t ht
      rw [List.getD_eq_getElem?_getD (l := r.tmps.toList)] at this
      rw [Array.getD_eq_getD_getElem?]
      simpa using this
    · have := p8.2 t ht
      simp only at e
      rw [e] at this
      cases this
  have hrel := base.puts ps args vs hv hl
  have efold : (r.params.zip vs.toArray).foldl (fun tmps (p : Tmp × Value) => tmps.setIfInBounds p.1 p.2) r.tmps = (ps.zip vs).foldl (fun tmps p => tmps.setIfInBounds p.1 p.2) r.tmps := by
    rw [p5]; simp
  have hsz : vs.toArray.size = r.params.size := by rw [p5]; simp [hv.1, hl]
  refine ⟨r.fn, _, r.assign, r.body, run_yield p2 hsz, ?_⟩
  refine roundIn_of_wpIn trivial ?_
  have efold' : (r.params.zip vs.toArray).foldl (fun tmps (x : Tmp × Value) => match x with | (t, a) => tmps.setIfInBounds t a) r.tmps = (ps.zip vs).foldl (fun tmps p => tmps.setIfInBounds p.1 p.2) r.tmps := efold
  first | rw [efold'] | rw [efold] | skip
  rw [p6, p7]
  refine Go.wpIn_mono (code_soundG (ro := some l) asg ac _ (.inr hac) ha hrel k) (fun e ca w1 q => ?_)
  have hloop : ∀ {H1 : AHeap} {G1 : Ghost} {w1 : World} {busy : Bool} {ss1 : List AV} {ps1 : List Nat} {asg1 body1 : Code} {pend1 : Option Code}, HInv W0 H1 G1 w1 → G.le G1 → H1[b]? = some (.loop busy ss1 ps1 asg1 body1 pend1) →
      ∃ r1 : Loop, G1.bx b = some l ∧ w1.heap[l]? = some (.loop r1) ∧ r1.state = (if busy then .busy else if pend1.isNone then .ready else .done) ∧ ∀ (busy' : Bool) (pend' : Option Code),
        HInv W0 (H1.set b (.loop busy' ss1 ps1 asg1 body1 pend')) G1 (w1.putObj l (.loop { r1 with state := (if busy' then .busy else if pend'.isNone then .ready else .done), pending := pend' })) ∧
        Next G1 w1 G1 (w1.putObj l (.loop { r1 with state := (if busy' then .busy else if pend'.isNone then .ready else .done), pending := pend' })) := by
    intro H1 G1 w1 busy ss1 ps1 asg1 body1 pend1 hi1 hle hb1
    obtain ⟨B1, r1, q1, q2, q3, q4, q5, q6, q7, q8⟩ := hi1.obj b _ hb1
    have := hle.bx b l hbx
    rw [q1] at this
    cases this
    refine ⟨r1, q1, q2, q3, fun busy' pend' => ?_⟩
    exact hi1.setObj b l _ (.loop busy' ss1 ps1 asg1 body1 pend') _ hb1 q1 (by simp) (by simp) (fun c t f z => by rw [q2] at z; cases z) (fun w' hw' => ⟨l, _, q1, hw', rfl, rfl, q5, q6, q7, q8⟩)
  cases e with
  | normal =>
    obtain ⟨st1, H1, k1, G1, L1, h1⟩ := q
    simp only [roundAG] at k1
    split at k1
    rotate_left
    · exact k1.elim
    rename_i ss1 ps1 asg1 body1 hb1
    obtain ⟨st1', hle1, k1⟩ := k1
    have h1 := h1.weak hle1
    obtain ⟨r1, q1, q2, q3, hput⟩ := hloop h1.inv h1.next.le hb1
    obtain ⟨hi2, hn2⟩ := hput true none
    have hpend : r1.pending = none := by
      obtain ⟨B1, r1', z1, z2, z3, z4, _⟩ := h1.inv.obj b _ hb1
      rw [q1] at z1; cases z1
      rw [q2] at z2; cases z2
      exact z4
    have e1 : ({ r1 with state := .busy } : Loop) = { r1 with state := (if (true : Bool) then .busy else if (none : Option Code).isNone then .ready else .done), pending := none } := by
      cases r1; simp_all
    refine ⟨_, run_beginRound q2 (by rw [q3]; rfl), ?_⟩
    rw [e1]
    refine Go.wpIn_mono (code_soundG (ro := some l) body bc _ (.inr hbc) hbo (h1.step hn2 hi2) k1) (fun e2 ca2 w2 qq => ?_)
    have fin : ∀ (pend : Option Code) (bb : Bool) (c : Option Code), bb = c.isNone → pend = c → ∀ st2 H2 G2 L2, Rel W0 G w ss.length G2 L2 st2 H2 ca2 w2 → ∀ ss2 ps2 asg2 body2 pend2, H2[b]? = some (.loop true ss2 ps2 asg2 body2 pend2) → Q (.bool bb) (H2.set b (.loop false ss2 ps2 asg2 body2 c)) →
        ∃ v w', (Instr.endRound l c).run P w2 = .ok v w' ∧ ∃ v' r H' G', Ending.returned v = .returned v' ∧ Q r H' ∧ Next G w G' w' ∧ HInv W0 H' G' w' ∧ VRel G' r v' := by
      intro pend bb c hbb hpc st2 H2 G2 L2 h2 ss2 ps2 asg2 body2 pend2 hb2 hq
      obtain ⟨r2, z1, z2, z3, hput2⟩ := hloop h2.inv h2.next.le hb2
      obtain ⟨hi3, hn3⟩ := hput2 false c
      refine ⟨.bool c.isNone, _, run_endRound c z2, _, .bool bb, _, G2, rfl, hq, h2.next.trans ?_, ?_, by rw [hbb]; exact .bool _⟩
      · simpa using hn3
      · simpa using hi3
    cases e2 with
    | normal =>
      obtain ⟨st2, H2, k2, G2, L2, h2⟩ := qq
      simp only [roundQ] at k2
      split at k2
      · rename_i hb2; exact fin none true none rfl rfl _ _ _ _ h2 _ _ _ _ _ hb2 k2
      · exact k2.elim
    | ret =>
      obtain ⟨st2, H2, k2, G2, L2, h2⟩ := qq
      simp only [roundQ] at k2
      split at k2
      · rename_i hb2; exact fin (some .ret) false (some .ret) rfl rfl _ _ _ _ h2 _ _ _ _ _ hb2 k2
      · exact k2.elim
    | exit id =>
      obtain ⟨st2, H2, k2, G2, L2, h2⟩ := qq
      simp only [roundQ] at k2
      split at k2
      · rename_i hb2; exact fin (some (.exit id)) false (some (.exit id)) rfl rfl _ _ _ _ h2 _ _ _ _ _ hb2 k2
      · exact k2.elim
    | _ => exact qq.elim
  | ret => obtain ⟨_, _, k1, _⟩ := q; exact k1.elim
  | exit id => obtain ⟨_, _, k1, _⟩ := q; exact k1.elim
  | _ => exact q.elim

/-- How a round's body is left. -/
noncomputable def roundQJ (b : Nat) (Q : AV → EH → Prop) : SQ := fun e s h =>
  match h.get b with
  | some (.loop true ss ps asg body _) => match e with
    | .normal => Q (.bool true) (h.set b (.loop false ss ps asg body none))
    | .ret => Q (.bool false) (h.set b (.loop false ss ps asg body (some .ret)))
    | .exit id => Q (.bool false) (h.set b (.loop false ss ps asg body (some (.exit id))))
  | _ => False
/-- What a round asks for. -/
noncomputable def roundJ (P : Program) (W0 : World) (b : Nat) (ja jb : JCode) (s : Tr AV) (h : EH) (Q : AV → EH → Prop) : Prop :=
  sj P W0 ja (fun e s h => match e with
    | .normal => match h.get b with
      | some (.loop false ss ps asg body none) => sj P W0 jb (roundQJ b Q) s (h.set b (.loop true ss ps asg body none))
      | _ => False
    | _ => False) s h
theorem syields_of {b : Nat} {ss : List AV} {ps : List Nat} {asg body : Code} {hs : List Nat} {ac bc : ACode} {ja jb : JCode} {args : List AV} {h : EH} {Q : AV → EH → Prop} (hb : h.get b = some (.loop false ss ps asg body none))
    (ha : cCode P ss.length hs asg = some ac) (hac : codeCalm asg = true) (hbo : cCode P ss.length hs body = some bc) (hbc : codeCalm body = true) (hja : strip ja = some ac) (hjb : strip jb = some bc) (hl : args.length = ps.length)
    (k : roundJ P W0 b ja jb (roundT ss ps args) h Q) : SYields P W0 b args h Q := by
  refine ayieldsG_of (hs := hs) (by rw [EH.get_list]; exact hb) ha hac hbo hbc hl ?_
  rw [← mkS_roundT]
  refine sj_ok ja ac _ h _ _ hja (fun x s h q => ?_) k
  cases x with
  | normal =>
    simp only at q
    split at q
    rotate_left
    · exact q.elim
    rename_i ss1 ps1 asg1 body1 hb1
    simp only [roundAG, EH.get_list, hb1]
    refine ⟨_, .refl _, ?_⟩
    rw [← EH.set_list _ _ _ (by rw [hb1]; simp)]
    refine sj_ok jb bc _ _ _ _ hjb (fun x s h q => ?_) q
    simp only [roundQJ] at q
    split at q
    rotate_left
    · exact q.elim
    rename_i ss2 ps2 asg2 body2 p2 hb2
    simp only [roundQ, EH.get_list, hb2]
    cases x <;> simp only at q ⊢ <;> exact ⟨_, (EH.set_list _ _ _ (by rw [hb2]; simp)).symm, q⟩
  | exit i => exact q.elim
  | ret => exact q.elim
end
/-! ### Words -/
/-- What stands in a function's first loop over a function. -/
def findRF : Code → Option (Code × Code)
  | .rangeFunc _ _ asg body => some (asg, body)
  | .seq a b => match findRF a with
    | some x => some x
    | none => findRF b
  | .cond _ a b => match findRF a with
    | some x => some x
    | none => findRF b
  | .block _ c => findRF c
  | .loop c => findRF c
  | _ => none
def rfA (fn : Func) : Code := match fn.body.bind findRF with
  | some x => x.1
  | none => .skip
def rfB (fn : Func) : Code := match fn.body.bind findRF with
  | some x => x.2
  | none => .skip
def acOf (P : Program) (N : Nat) (c : Code) : ACode := (cCode P N (List.range N) c).getD .no
noncomputable def outW (b : Nat) (Qn Qr : EH → Prop) (h : EH) : Prop :=
  match h.get b with
  | some (.loop false _ _ _ _ none) => Qn (h.set b .dead)
  | some (.loop false _ _ _ _ (some .ret)) => Qr (h.set b .dead)
  | some (.loop false _ _ _ _ (some (.exit _))) => False
  | _ => False
noncomputable def rg (P : Program) (W0 : World) (x : AV) (ss : List AV) (ps : List Nat) (asg body : Code) (h : EH) (Qn Qr : EH → Prop) : Prop :=
  match x with
  | .fn (.func g) first capt => (first ++ capt).all AV.glob = true ∧ SCalls P W0 g (first ++ .yfn h.n :: capt) (h.push (.loop false ss ps asg body none)) fun _ h' => outW h.n Qn Qr h'
  | _ => False
noncomputable def rbW (b : Nat) (h : EH) (k : EH → Prop) : Prop :=
  match h.get b with
  | some (.loop false ss ps asg body none) => k (h.set b (.loop true ss ps asg body none))
  | _ => False
noncomputable def rnW (b : Nat) (h : EH) (Q : AV → EH → Prop) : Prop :=
  match h.get b with
  | some (.loop true ss ps asg body _) => Q (.bool true) (h.set b (.loop false ss ps asg body none))
  | _ => False
noncomputable def rrW (b : Nat) (h : EH) (Q : AV → EH → Prop) : Prop :=
  match h.get b with
  | some (.loop true ss ps asg body _) => Q (.bool false) (h.set b (.loop false ss ps asg body (some .ret)))
  | _ => False
end Go.Qa
/- The abstract machine: what a call leaves behind and nobody asks for is forgotten. -/
namespace Go.Qa
open Go Go.RowKit

/-- The second value is the first one, but for places told otherwise and owners forgotten. -/
inductive Wk (φ : Nat → Nat) (m : Nat) : AV → AV → Prop
  | any (x : AV) : Wk φ m x .any
  | int (k : IntKind) (n : Int) : Wk φ m (.int k n) (.int k n)
  | bool (b : Bool) : Wk φ m (.bool b) (.bool b)
  | str (s : List UInt8) : Wk φ m (.str s) (.str s)
  | pl (v : Value) : Wk φ m (.pl v) (.pl v)
  | ref (b b' o : Nat) (hb : b' < m) (e : φ b' = b) : Wk φ m (.ref b o) (.ref b' o)
  | eref (cs cs' : List AV) (hl : cs'.length = cs.length) (h : ∀ j, j < cs.length → Wk φ m (cs.getD j .any) (cs'.getD j .any)) : Wk φ m (.eref cs) (.eref cs')
  | row (own own' : Option (Nat × Nat)) (f f' : Bool) (z : Nat) (es es' : List AV) (hl : es'.length = es.length)
      (ho : own' = none ∨ ∃ t k, own' = some (t, k) ∧ t < m ∧ own = some (φ t, k)) (hf : f' = true → f = true)
      (hk : ∀ i, i < es.length → (es'.getD i .any).cells?.map List.length = (es.getD i .any).cells?.map List.length)
      (h : ∀ i j, i < es.length → j < z → Wk φ m ((es.getD i .any).cells.getD j .any) ((es'.getD i .any).cells.getD j .any)) : Wk φ m (.row own f z es) (.row own' f' z es')
  | arr (b b' s l z : Nat) (hb : b' < m) (e : φ b' = b) : Wk φ m (.arr b s l z) (.arr b' s l z)
  | map (b b' : Nat) (hb : b' < m) (e : φ b' = b) : Wk φ m (.map b) (.map b')
  | itr (b b' : Nat) (hb : b' < m) (e : φ b' = b) : Wk φ m (.itr b) (.itr b')
  | yfn (b b' : Nat) (hb : b' < m) (e : φ b' = b) : Wk φ m (.yfn b) (.yfn b')
  | fn (f : Fn) (a a' c c' : List AV) (hl : a'.length = a.length) (hl2 : c'.length = c.length) (h : ∀ j, j < a.length → Wk φ m (a.getD j .any) (a'.getD j .any))
      (h2 : ∀ j, j < c.length → Wk φ m (c.getD j .any) (c'.getD j .any)) : Wk φ m (.fn f a c) (.fn f a' c')
  | iface (t : TypeId) (x x' : AV) (h : Wk φ m x x') : Wk φ m (.iface t x) (.iface t x')
  | agg (cs cs' : List AV) (hl : cs'.length = cs.length) (h : ∀ j, j < cs.length → Wk φ m (cs.getD j .any) (cs'.getD j .any)) : Wk φ m (.agg cs) (.agg cs')
  | tup (cs cs' : List AV) (hl : cs'.length = cs.length) (h : ∀ j, j < cs.length → Wk φ m (cs.getD j .any) (cs'.getD j .any)) : Wk φ m (.tup cs) (.tup cs')

/-- What an outer ghost keeps of an inner one. -/
def Ghost.cut (G : Ghost) (φ : Nat → Nat) (m : Nat) : Ghost := ⟨fun i => if i < m then G.bx (φ i) else none, G.imm, fun t n => if t < m then G.at_ (φ t) n else none, G.sz⟩
theorem Ghost.cut_bx {G : Ghost} {φ : Nat → Nat} {m b b' B : Nat} (hb : b' < m) (e : φ b' = b) (h : G.bx b = some B) : (G.cut φ m).bx b' = some B := by
  show (if b' < m then G.bx (φ b') else none) = _
  rw [if_pos hb, e, h]
theorem Ghost.cut_at {G : Ghost} {φ : Nat → Nat} {m t t' n : Nat} {x : Nat × Nat} (hb : t' < m) (e : φ t' = t) (h : G.at_ t n = some x) : (G.cut φ m).at_ t' n = some x := by
  show (if t' < m then G.at_ (φ t') n else none) = _
  rw [if_pos hb, e, h]
theorem map_len {x y : Option (List AV)} {cs : List AV} (e : y.map List.length = x.map List.length) (h : x = some cs) : ∃ cs', y = some cs' ∧ cs'.length = cs.length := by
  subst h
  cases y with
  | none => cases e
  | some c => exact ⟨c, rfl, by simpa using e⟩
theorem VRel.cut {G : Ghost} {φ : Nat → Nat} {m : Nat} {x : AV} {v : Value} (h : VRel G x v) : ∀ y, Wk φ m x y → VRel (G.cut φ m) y v := by
  induction h with
  | any v => intro y hy; cases hy; exact .any v
  | int k n => intro y hy; cases hy with | any => exact .any _ | int => exact .int k n
  | bool b => intro y hy; cases hy with | any => exact .any _ | bool => exact .bool b
  | str s hs => intro y hy; cases hy with | any => exact .any _ | str => exact .str s hs
  | pl v => intro y hy; cases hy with | any => exact .any _ | pl => exact .pl v
  | ref b off B h => intro y hy; cases hy with | any => exact .any _ | ref _ b' _ hb e => exact .ref _ _ _ (Ghost.cut_bx hb e h)
  | eref cells B o cv hm hv ih =>
    intro y hy
    cases hy with
    | any => exact .any _
    | eref _ cs' hl h => exact .eref cs' B o cv (fun j hj => hm j (by omega)) fun j hj => ih j (by omega) _ (h j (by omega))
  | row own full esz es a cap cv hs he hm hv hc hx hf ho ih =>
    intro y hy
    cases hy with
    | any => exact .any _
    | row _ own' _ f' _ _ es' hl ho' hf' hk h =>
      have hcs : ∀ i, i < es'.length → ∃ cs, (es'.getD i .any).cells? = some cs ∧ cs.length = esz := fun i hi => by
        obtain ⟨cs, h1, h2⟩ := he i (by omega)
        obtain ⟨cs', h3, h4⟩ := map_len (hk i (by omega)) h1
        exact ⟨cs', h3, by omega⟩
      have key : VRel (G.cut φ m) (.row own' f' esz es') (.slice (some a) es'.length cap) := by
        refine .row own' f' esz es' a cap cv (fun q => hs (by omega)) hcs (fun i j hi hj => hm i j (by omega) hj) (fun i j hi hj => ih i j (by omega) hj _ (h i j (by omega) hj)) (by omega) hx (fun q => by rw [hl]; exact hf (hf' q)) fun t n q => ?_
        rcases ho' with q2 | ⟨t', k, q2, q3, q4⟩
        · rw [q2] at q; cases q
        · rw [q2] at q
          cases q
          obtain ⟨z1, z2, z3⟩ := ho _ _ q4
          rw [hl]
          exact ⟨z1, Ghost.cut_at q3 rfl z2, z3⟩
      rwa [hl] at key
  | arr b start len esz B cap sz h hc hx hs hz => intro y hy; cases hy with | any => exact .any _ | arr _ b' _ _ _ hb e => exact .arr _ _ _ _ B cap sz (Ghost.cut_bx hb e h) hc hx hs hz
  | map m B h => intro y hy; cases hy with | any => exact .any _ | map _ b' hb e => exact .map _ B (Ghost.cut_bx hb e h)
  | yfn b B h => intro y hy; cases hy with | any => exact .any _ | yfn _ b' hb e => exact .yfn _ B (Ghost.cut_bx hb e h)
  | itr m B h => intro y hy; cases hy with | any => exact .any _ | itr _ b' hb e => exact .itr _ B (Ghost.cut_bx hb e h)
  | fn f first captured vf vc hlf hlc hf hc ihf ihc =>
    intro y hy
    cases hy with
    | any => exact .any _
    | fn _ _ a' _ c' l1 l2 h1 h2 => exact .fn f a' c' vf vc (by omega) (by omega) (fun j hj => ihf j (by omega) _ (h1 j (by omega))) fun j hj => ihc j (by omega) _ (h2 j (by omega))
  | iface t x v h ih => intro y hy; cases hy with | any => exact .any _ | iface _ _ x' h => exact .iface t x' v (ih _ h)
  | agg cs vs hl h ih => intro y hy; cases hy with | any => exact .any _ | agg _ cs' l h => exact .agg cs' vs (by omega) fun j hj => ih j (by omega) _ (h j (by omega))
  | tup cs vs hl h ih => intro y hy; cases hy with | any => exact .any _ | tup _ cs' l h => exact .tup cs' vs (by omega) fun j hj => ih j (by omega) _ (h j (by omega))
/-- What was there at the call knows nothing of what came later. -/
theorem VRel.wk {G : Ghost} {φ : Nat → Nat} {m : Nat} (hb : ∀ b B, G.bx b = some B → b < m ∧ φ b = b) (ha : ∀ t k x, G.at_ t k = some x → t < m ∧ φ t = t) {x : AV} {v : Value} (h : VRel G x v) : Wk φ m x x := by
  induction h with
  | any v => exact .any _
  | int k n => exact .int k n
  | bool b => exact .bool b
  | str s hs => exact .str s
  | pl v => exact .pl v
  | ref b off B h => exact .ref _ _ _ (hb _ _ h).1 (hb _ _ h).2
  | eref cells B o cv hm hv ih => exact .eref _ _ rfl ih
  | row own full esz es a cap cv hs he hm hv hc hx hf ho ih =>
    refine .row own own full full esz es es rfl ?_ (fun q => q) (fun _ _ => rfl) ih
    rcases q : own with _ | ⟨t, k⟩
    · exact .inl rfl
    · obtain ⟨_, z, _⟩ := ho t k q
      exact .inr ⟨t, k, rfl, (ha _ _ _ z).1, by rw [(ha _ _ _ z).2]⟩
  | arr b start len esz B cap sz h hc hx hs hz => exact .arr _ _ _ _ _ (hb _ _ h).1 (hb _ _ h).2
  | map m B h => exact .map _ _ (hb _ _ h).1 (hb _ _ h).2
  | yfn b B h => exact .yfn _ _ (hb _ _ h).1 (hb _ _ h).2
  | itr m B h => exact .itr _ _ (hb _ _ h).1 (hb _ _ h).2
  | fn f first captured vf vc hlf hlc hf hc ihf ihc => exact .fn _ _ _ _ _ rfl rfl ihf ihc
  | iface t x v h ih => exact .iface _ _ _ ih
  | agg cs vs hl h ih => exact .agg _ _ rfl ih
  | tup cs vs hl h ih => exact .tup _ _ rfl ih

/-- An object as it was, but for places told otherwise and owners forgotten. -/
def OWk (φ : Nat → Nat) (m : Nat) : AObj → AObj → Prop
  | .cells cs, .cells cs' => cs'.length = cs.length ∧ ∀ j, j < cs.length → (cs'.getD j .any).one = true ∧ Wk φ m (cs.getD j .any) (cs'.getD j .any)
  | .row n, .row n' => n = n'
  | .map es c, .map es' c' => c = c' ∧ es.length = es'.length ∧ ∀ (j : Nat) (e e' : AV × AV × Nat), es[j]? = some e → es'[j]? = some e' → Wk φ m e.1 e'.1 ∧ Wk φ m e.2.1 e'.2.1 ∧ e.2.2 = e'.2.2
  | .iter mo a b c, .iter mo' a' b' c' => a = a' ∧ b = b' ∧ c = c' ∧ ((mo = none ∧ mo' = none) ∨ ∃ j, mo' = some j ∧ j < m ∧ mo = some (φ j))
  | .siter s p, .siter s' p' => s = s' ∧ p = p'
  | .loop a ss b c d e, .loop a' ss' b' c' d' e' => a = a' ∧ b = b' ∧ c = c' ∧ d = d' ∧ e = e' ∧ ss'.length = ss.length ∧ ∀ j, j < ss.length → Wk φ m (ss.getD j .any) (ss'.getD j .any)
  | _, .dead => True
  | _, _ => False
theorem OWk.dead {φ : Nat → Nat} {m : Nat} {o' : AObj} (h : OWk φ m .dead o') : o' = .dead := by cases o' <;> first | rfl | exact h.elim
theorem ORel.wk {G : Ghost} {w : World} {φ : Nat → Nat} {m i : Nat} {o : AObj} (hb : ∀ b B, G.bx b = some B → b < m ∧ φ b = b) (ha : ∀ t k x, G.at_ t k = some x → t < m ∧ φ t = t) (h : ORel G w i o) : OWk φ m o o := by
  cases o with
  | cells cs =>
    obtain ⟨B, vs, ty, fz, h1, h2, h3, h4, h5, h6⟩ := h
    exact ⟨rfl, fun j hj => ⟨(h6 j hj).1, (h6 j hj).2.wk hb ha⟩⟩
  | row n => exact rfl
  | map es c =>
    obtain ⟨B, ms, h1, h2, h3, h4⟩ := h
    refine ⟨rfl, rfl, fun j e e' q q' => ?_⟩
    rw [q] at q'; cases q'
    obtain ⟨e2, mm, z1, z2, z3, z4, z5⟩ := h4 j (List.getElem?_eq_some_iff.1 q).1
    rw [q] at z1; cases z1
    exact ⟨z3.wk hb ha, z4.wk hb ha, rfl⟩
  | iter mo a b c =>
    obtain ⟨B, h1, mB, h2, h3⟩ := h
    refine ⟨rfl, rfl, rfl, ?_⟩
    cases mo with
    | none => exact .inl ⟨rfl, rfl⟩
    | some j =>
      obtain ⟨C, hC, _⟩ := h3
      exact .inr ⟨j, rfl, (hb _ _ hC).1, by rw [(hb _ _ hC).2]⟩
  | siter s p => exact ⟨rfl, rfl⟩
  | loop a ss b c d e =>
    obtain ⟨B, r, h1, h2, h3, h4, h5, h6, h7, h8⟩ := h
    exact ⟨rfl, rfl, rfl, rfl, rfl, rfl, fun j hj => (h8.2 j hj).wk hb ha⟩
  | dead => trivial
theorem ORel.cut {G : Ghost} {w : World} {φ : Nat → Nat} {m i : Nat} {o o' : AObj} (hi : i < m) (h : ORel G w (φ i) o) (q : OWk φ m o o') : ORel (G.cut φ m) w i o' := by
  have hbx : ∀ B, G.bx (φ i) = some B → (G.cut φ m).bx i = some B := fun B e => Ghost.cut_bx hi rfl e
  cases o' with
  | dead => trivial
  | cells cs' =>
    cases o with
    | cells cs =>
      obtain ⟨B, vs, ty, fz, h1, h2, h3, h4, h5, h6⟩ := h
      exact ⟨B, vs, ty, fz, hbx _ h1, h2, h3, h4, by rw [q.1]; exact h5, fun j hj => ⟨(q.2 j (by rw [← q.1]; exact hj)).1, (h6 j (by rw [← q.1]; exact hj)).2.cut _ (q.2 j (by rw [← q.1]; exact hj)).2⟩⟩
    | _ => exact q.elim
  | row n' =>
    cases o with
    | row n =>
      obtain ⟨B, E, vs, ty, fz, h1, h2⟩ := h
      have : n = n' := q
      subst this
      exact ⟨B, E, vs, ty, fz, Ghost.cut_at hi rfl h1, h2⟩
    | _ => exact q.elim
  | map es' c' =>
    cases o with
    | map es c =>
      obtain ⟨B, ms, h1, h2, h3, h4⟩ := h
      obtain ⟨q1, q2, q3⟩ := q
      subst q1
      refine ⟨B, ms, hbx _ h1, h2, by omega, fun j hj => ?_⟩
      obtain ⟨e, mm, z1, z2, z3, z4, z5⟩ := h4 j (by omega)
      have := q3 j e (es'[j]) z1 (List.getElem?_eq_getElem hj)
      exact ⟨es'[j], mm, List.getElem?_eq_getElem hj, z2, z3.cut _ this.1, z4.cut _ this.2.1, by rw [← this.2.2]; exact z5⟩
    | _ => exact q.elim
  | iter mo' a' b' c' =>
    cases o with
    | iter mo a b c =>
      obtain ⟨B, h1, mB, h2, h3⟩ := h
      obtain ⟨q1, q2, q3, q4⟩ := q
      subst q1 q2 q3
      refine ⟨B, hbx _ h1, mB, h2, ?_⟩
      rcases q4 with ⟨rfl, rfl⟩ | ⟨j, rfl, hj, rfl⟩
      · exact h3
      · obtain ⟨C, hC, z⟩ := h3
        exact ⟨C, Ghost.cut_bx hj rfl hC, z⟩
    | _ => exact q.elim
  | siter s' p' =>
    cases o with
    | siter s p =>
      obtain ⟨B, h1, h2⟩ := h
      obtain ⟨q1, q2⟩ := q
      subst q1 q2
      exact ⟨B, hbx _ h1, h2⟩
    | _ => exact q.elim
  | loop a' ss' b' c' d' e' =>
    cases o with
    | loop a ss b c d e =>
      obtain ⟨B, r, h1, h2, h3, h4, h5, h6, h7, h8⟩ := h
      obtain ⟨q1, q2, q3, q4, q5, q6, q7⟩ := q
      subst q1 q2 q3 q4 q5
      exact ⟨B, r, hbx _ h1, h2, h3, h4, h5, h6, h7, by rw [q6]; exact h8.1, fun j hj => (h8.2 j (by omega)).cut _ (q7 j (by omega))⟩
    | _ => exact q.elim

/-- What a call leaves is forgotten, where nobody asks for it. -/
theorem ACalls.trim {P : Program} {W0 : World} {f : FuncId} {args : List AV} {H : AHeap} {Q Q' : AV → AHeap → Prop} (e : ACalls P W0 f args H Q)
    (hq : ∀ r H', Q r H' → ∃ r0 H0 φ, Q' r0 H0 ∧ H.length ≤ H0.length ∧ (∀ i, i < H.length → φ i = i) ∧ (∀ i j, i < H0.length → j < H0.length → φ i = φ j → i = j) ∧ Wk φ H0.length r r0 ∧
      ∀ i o', H0[i]? = some o' → (i < H.length ∧ H'[i]? = H[i]? ∧ H0[i]? = H[i]?) ∨ ∃ o, H'[φ i]? = some o ∧ OWk φ H0.length o o') : ACalls P W0 f args H Q' := by
  refine ⟨e.1, fun G w vs hi hv => (e.2 G w vs hi hv).mono fun en w' ⟨v, r, H', G', e1, hQ, hn, hi', hv'⟩ => ?_⟩
  obtain ⟨r0, H0, φ, k1, k2, k3, k4, k5, k6⟩ := hq _ _ hQ
  have hb : ∀ b B, G.bx b = some B → b < H0.length ∧ φ b = b := fun b B q => by
    have := (hi.bxs b B q).1
    exact ⟨by omega, k3 b this⟩
  have ha : ∀ t k x, G.at_ t k = some x → t < H0.length ∧ φ t = t := fun t k x q => by
    have := (hi.ats t k x.1 x.2 q).1
    exact ⟨by omega, k3 t this⟩
  have kk : ∀ i o', H0[i]? = some o' → ∃ o, H'[φ i]? = some o ∧ OWk φ H0.length o o' := fun i o' q => by
    rcases k6 i o' q with ⟨q1, q2, q3⟩ | q1
    · rw [q] at q3
      refine ⟨o', by rw [k3 i q1, q2, ← q3], ?_⟩
      exact (hi.obj i o' q3.symm).wk hb ha
    · exact q1
  have hbx : ∀ i B, (G'.cut φ H0.length).bx i = some B → i < H0.length ∧ G'.bx (φ i) = some B := fun i B q => by
    simp only [Ghost.cut] at q
    split at q
    · exact ⟨by assumption, q⟩
    · cases q
  have hat : ∀ t n x, (G'.cut φ H0.length).at_ t n = some x → t < H0.length ∧ G'.at_ (φ t) n = some x := fun t n x q => by
    simp only [Ghost.cut] at q
    split at q
    · exact ⟨by assumption, q⟩
    · cases q
  have hdead : ∀ i, i < H0.length → H0[i]? ≠ some .dead → H'[φ i]? ≠ some .dead := fun i hl q q2 => by
    obtain ⟨o, z1, z2⟩ := kk i _ (List.getElem?_eq_getElem hl)
    rw [q2] at z1; cases z1
    exact q (by rw [List.getElem?_eq_getElem hl, z2.dead])
  refine ⟨v, r0, H0, G'.cut φ H0.length, e1, k1, ?_, ?_, hv'.cut _ k5⟩
  · refine ⟨⟨fun i B q => Ghost.cut_bx (hb i B q).1 (hb i B q).2 (hn.le.bx i B q), hn.le.imm, fun t n x q => Ghost.cut_at (ha t n x q).1 (ha t n x q).2 (hn.le.at_ t n x q), hn.le.sz, hn.le.immf⟩, hn.size, hn.keep, hn.fresh⟩
  · refine { base := hi'.base, lt := hi'.lt, imm := hi'.imm, bxs := fun i B q => ?_, inj := fun i j B q1 q2 d1 d2 => ?_, ats := fun t n B E q => ?_, obj := fun i o' q => ?_, cur := fun t t' n n' B E E' q1 q2 q3 q4 => ?_ }
    · obtain ⟨q1, q2⟩ := hbx i B q
      have := hi'.bxs _ _ q2
      exact ⟨q1, this.2.1, fun d o => this.2.2 (hdead i q1 d) o⟩
    · obtain ⟨a1, a2⟩ := hbx i B q1
      obtain ⟨b1, b2⟩ := hbx j B q2
      exact k4 i j a1 b1 (hi'.inj _ _ B a2 b2 (hdead i a1 d1) (hdead j b1 d2))
    · obtain ⟨a1, a2⟩ := hat t n _ q
      have := hi'.ats _ _ _ _ a2
      refine ⟨a1, this.2.1, fun i q2 => ?_⟩
      obtain ⟨b1, b2⟩ := hbx i B q2
      obtain ⟨o, z1, z2⟩ := kk i _ (List.getElem?_eq_getElem b1)
      rw [this.2.2 _ b2] at z1
      cases z1
      rw [List.getElem?_eq_getElem b1, z2.dead]
    · have hl := (List.getElem?_eq_some_iff.1 q).1
      obtain ⟨o, z1, z2⟩ := kk i o' q
      exact (hi'.obj _ o z1).cut hl z2
    · obtain ⟨a1, a2⟩ := hat t n _ q3
      obtain ⟨b1, b2⟩ := hat t' n' _ q4
      obtain ⟨o, z1, z2⟩ := kk t _ q1
      obtain ⟨o', z3, z4⟩ := kk t' _ q2
      have hrow : ∀ (o : AObj) (n : Nat), OWk φ H0.length o (.row n) → o = .row n := fun o n q => by
        cases o with
        | row n2 => have : n2 = n := q; rw [this]
        | _ => exact q.elim
      rw [hrow _ _ z2] at z1
      rw [hrow _ _ z4] at z3
      exact k4 t t' a1 b1 (hi'.cur _ _ _ _ B _ _ z1 z3 a2 b2)

/-! ### Calls -/
/-- What is asked for, once what nobody asks for is forgotten. -/
def Cut (h : EH) (k : AV → EH → Prop) : AV → EH → Prop := fun r h' => ∃ r0 h0 φ, k r0 h0 ∧ h.n ≤ h0.n ∧ (∀ i, i < h.n → φ i = i) ∧ (∀ i j, i < h0.n → j < h0.n → φ i = φ j → i = j) ∧ Wk φ h0.n r r0 ∧
  ∀ i o', h0.get i = some o' → (i < h.n ∧ h'.get i = h.get i ∧ h0.get i = h.get i) ∨ ∃ o, h'.get (φ i) = some o ∧ OWk φ h0.n o o'
section
variable {P : Program} {W0 : World} {f : FuncId} {args : List AV} {h h' : EH} {k : AV → EH → Prop} {r r0 : AV}
theorem SCalls.cut (e : SCalls P W0 f args h (Cut h k)) : SCalls P W0 f args h k := by
  refine ACalls.trim e fun r H' ⟨h', e1, r0, h0, φ, k1, k2, k3, k4, k5, k6⟩ => ?_
  subst e1
  refine ⟨r0, h0.list, φ, ⟨h0, rfl, k1⟩, ?_⟩
  simp only [EH.length_list, EH.get_list]
  exact ⟨k2, k3, k4, k5, k6⟩

/-- All but some of what there was is as it was. -/
def EM (S : List Nat) (h h' : EH) : Prop := h.n ≤ h'.n ∧ ∀ i, i < h.n → i ∉ S → h'.get i = h.get i
theorem EM.refl (S : List Nat) (h : EH) : EM S h h := ⟨Nat.le_refl _, fun _ _ _ => rfl⟩
theorem EM.trans {S : List Nat} {a b c : EH} (h : EM S a b) (k : EM S b c) : EM S a c := ⟨Nat.le_trans h.1 k.1, fun i q z => by rw [k.2 i (Nat.lt_of_lt_of_le q h.1) z, h.2 i q z]⟩
theorem EM.get {S : List Nat} {h h' : EH} (e : EM S h h') {i : Nat} {o : AObj} (q : h.get i = some o) (z : i ∉ S) : h'.get i = some o := by rw [e.2 i (EH.get_lt q) z, q]
theorem EM.ext {S : List Nat} {h h' : EH} (e : Ext h h') : EM S h h' := ⟨e.1, fun i q _ => e.2 i q⟩
theorem EM.of_nil {h h' : EH} (e : EM [] h h') : Ext h h' := ⟨e.1, fun i q => e.2 i q (by simp)⟩
theorem EM.push {S : List Nat} {h h' : EH} {o : AObj} (e : EM S h h') : EM S h (h'.push o) := ⟨by rw [EH.n_push]; have := e.1; omega, fun i q z => by rw [get_push_ne (by have := e.1; omega), e.2 i q z]⟩
theorem EM.setN {S : List Nat} {h h' : EH} {b : Nat} {o : AObj} (e : EM S h h') (q : h.n ≤ b) : EM S h (h'.set b o) := ⟨by rw [EH.n_set]; exact e.1, fun i q2 z => by rw [get_set_ne (by omega), e.2 i q2 z]⟩
theorem EM.setI {S : List Nat} {h h' : EH} {b : Nat} {o : AObj} (e : EM S h h') (q : b ∈ S) : EM S h (h'.set b o) := ⟨by rw [EH.n_set]; exact e.1, fun i q2 z => by rw [get_set_ne (fun c => z (by rw [c]; exact q)), e.2 i q2 z]⟩
theorem EM.mono {S T : List Nat} {h h' : EH} (e : EM S h h') (q : ∀ i, i ∈ S → i ∈ T) : EM T h h' := ⟨e.1, fun i a b => e.2 i a fun c => b (q i c)⟩
theorem EM.lt {S : List Nat} {h h' : EH} {i : Nat} (e : EM S h h') (q : i < h.n) : i < h'.n := Nat.lt_of_lt_of_le q e.1

/-- Nothing is left but the answer. -/
theorem cut_0 (e : EM [] h h') (w : Wk id h.n r r0) (hk : k r0 h) : Cut h k r h' :=
  ⟨r0, h, id, hk, Nat.le_refl _, fun _ _ => rfl, fun _ _ _ _ q => q, w, fun i o' q => .inl ⟨EH.get_lt q, e.2 i (EH.get_lt q) (by simp), rfl⟩⟩
/-- One object has turned. -/
theorem cut_1 {b : Nat} {o o' : AObj} (e : EM [b] h h') (hb : b < h.n) (q : h'.get b = some o) (qo : OWk id h.n o o') (w : Wk id h.n r r0) (hk : k r0 (h.set b o')) : Cut h k r h' := by
  refine ⟨r0, h.set b o', id, hk, by rw [EH.n_set]; omega, fun _ _ => rfl, fun _ _ _ _ q => q, by rw [EH.n_set]; exact w, fun i o2 q2 => ?_⟩
  by_cases c : i = b
  · subst c
    rw [get_set_eq rfl hb] at q2
    cases q2
    exact .inr ⟨o, q, by rw [EH.n_set]; exact qo⟩
  · rw [get_set_ne c] at q2
    exact .inl ⟨EH.get_lt q2, e.2 i (EH.get_lt q2) (by simpa using c), by rw [get_set_ne c]⟩
/-- Two objects have turned. -/
theorem cut_2 {a b : Nat} {o o' p p' : AObj} (e : EM [a, b] h h') (ha : a < h.n) (hb : b < h.n) (hab : a ≠ b) (q : h'.get a = some o) (qo : OWk id h.n o o') (q2 : h'.get b = some p) (qp : OWk id h.n p p') (w : Wk id h.n r r0) (hk : k r0 ((h.set a o').set b p')) : Cut h k r h' := by
  refine ⟨r0, (h.set a o').set b p', id, hk, by simp only [EH.n_set]; omega, fun _ _ => rfl, fun _ _ _ _ q => q, by simp only [EH.n_set]; exact w, fun i o2 z => ?_⟩
  simp only [EH.n_set]
  by_cases c : i = b
  · subst c
    rw [get_set_eq rfl (by rw [EH.n_set]; exact hb)] at z
    cases z
    exact .inr ⟨p, q2, qp⟩
  · rw [get_set_ne c] at z ⊢
    by_cases d : i = a
    · subst d
      rw [get_set_eq rfl ha] at z
      cases z
      exact .inr ⟨o, q, qo⟩
    · rw [get_set_ne d] at z ⊢
      exact .inl ⟨EH.get_lt z, e.2 i (EH.get_lt z) (by simp [c, d]), rfl⟩
/-- One object is new. -/
theorem cut_n {c : Nat} {o o' : AObj} (e : EM [] h h') (hc : h.n ≤ c) (q : h'.get c = some o) (qo : OWk (fun i => if i < h.n then i else c) (h.n + 1) o o') (w : Wk (fun i => if i < h.n then i else c) (h.n + 1) r r0) (hk : k r0 (h.push o')) : Cut h k r h' := by
  refine ⟨r0, h.push o', fun i => if i < h.n then i else c, hk, by rw [EH.n_push]; omega, fun i hi => if_pos hi, fun i j hi hj q => ?_, by rw [EH.n_push]; exact w, fun i o2 z => ?_⟩
  · rw [EH.n_push] at hi hj
    by_cases a : i < h.n <;> by_cases b : j < h.n <;> simp only [a, b, if_true, if_false] at q <;> omega
  · rw [EH.n_push]
    by_cases a : i = h.n
    · subst a
      rw [get_push_eq rfl] at z
      cases z
      exact .inr ⟨o, by simpa using q, qo⟩
    · rw [get_push_ne a] at z ⊢
      exact .inl ⟨EH.get_lt z, e.2 i (EH.get_lt z) (by simp), rfl⟩
/-- A tuple, part by part. -/
theorem Wk.tup2 {φ : Nat → Nat} {m : Nat} {a a' b b' : AV} (h : Wk φ m a a') (h2 : Wk φ m b b') : Wk φ m (.tup [a, b]) (.tup [a', b']) :=
  .tup _ _ rfl fun j hj => match j, hj with
    | 0, _ => h
    | 1, _ => h2
theorem Wk.tup3 {φ : Nat → Nat} {m : Nat} {a a' b b' c c' : AV} (h : Wk φ m a a') (h2 : Wk φ m b b') (h3 : Wk φ m c c') : Wk φ m (.tup [a, b, c]) (.tup [a', b', c']) :=
  .tup _ _ rfl fun j hj => match j, hj with
    | 0, _ => h
    | 1, _ => h2
    | 2, _ => h3
theorem Wk.tup0 {φ : Nat → Nat} {m : Nat} : Wk φ m (.tup []) (.tup []) := .tup _ _ rfl fun j hj => (by cases hj)
theorem OWk.cells3 {φ : Nat → Nat} {m : Nat} {a a' b b' c c' : AV} (h : a'.one = true ∧ Wk φ m a a') (h2 : b'.one = true ∧ Wk φ m b b') (h3 : c'.one = true ∧ Wk φ m c c') : OWk φ m (.cells [a, b, c]) (.cells [a', b', c']) :=
  ⟨rfl, fun j hj => match j, hj with
    | 0, _ => h
    | 1, _ => h2
    | 2, _ => h3⟩

/-! ### Trees: values that hold no address -/
inductive Tre : AV → Prop
  | any : Tre .any
  | int (k : IntKind) (n : Int) : Tre (.int k n)
  | bool (b : Bool) : Tre (.bool b)
  | str (s : List UInt8) : Tre (.str s)
  | pl (v : Value) : Tre (.pl v)
  | row (f : Bool) (z : Nat) (es : List AV) (h : ∀ e, e ∈ es → Tre e) : Tre (.row none f z es)
  | eref (cs : List AV) (h : ∀ e, e ∈ cs → Tre e) : Tre (.eref cs)
  | iface (t : TypeId) (x : AV) (h : Tre x) : Tre (.iface t x)
  | agg (cs : List AV) (h : ∀ e, e ∈ cs → Tre e) : Tre (.agg cs)
  | tup (cs : List AV) (h : ∀ e, e ∈ cs → Tre e) : Tre (.tup cs)
theorem mem_getD {es : List AV} {j : Nat} (h : j < es.length) : es.getD j .any ∈ es := by
  rw [List.getD_eq_getElem?_getD, List.getElem?_eq_getElem h]
  exact List.getElem_mem h
theorem Wk.cell {φ : Nat → Nat} {m : Nat} {x : AV} (h : Wk φ m x x) (hc : ∀ cs, x = .agg cs → ∀ e, e ∈ cs → Wk φ m e e) (j : Nat) : Wk φ m (x.cells.getD j .any) (x.cells.getD j .any) := by
  have single : x.cells = (if x.one then some [x] else none).getD [] → Wk φ m (x.cells.getD j .any) (x.cells.getD j .any) := by
    intro e
    rw [e]
    split
    · cases j with
      | zero => exact h
      | succ j => simpa using Wk.any _
    · simpa using Wk.any _
  cases x with
  | agg cs =>
    show Wk φ m (((if cs.all AV.one then some cs else none).getD []).getD j .any) (((if cs.all AV.one then some cs else none).getD []).getD j .any)
    split
    · by_cases q : j < cs.length
      · exact hc cs rfl _ (mem_getD q)
      · have : cs.getD j .any = .any := by rw [List.getD_eq_getElem?_getD, List.getElem?_eq_none (by omega)]; rfl
        show Wk φ m (cs.getD j .any) (cs.getD j .any)
        rw [this]
        exact .any _
    · simpa using Wk.any _
  | _ => exact single rfl
theorem Tre.wk {φ : Nat → Nat} {m : Nat} {x : AV} (h : Tre x) : Wk φ m x x := by
  induction h with
  | any => exact .any _
  | int k n => exact .int k n
  | bool b => exact .bool b
  | str s => exact .str s
  | pl v => exact .pl v
  | row f z es h ih =>
    refine .row _ _ _ _ _ _ _ rfl (.inl rfl) (fun q => q) (fun _ _ => rfl) fun i j hi hj => ?_
    refine Wk.cell (ih _ (mem_getD hi)) (fun cs e x hx => ?_) j
    have := ih _ (mem_getD hi)
    rw [e] at this
    cases this with
    | agg _ _ _ hh =>
      obtain ⟨j2, hj2, e2⟩ := List.mem_iff_getElem.1 hx
      have := hh j2 hj2
      rwa [List.getD_eq_getElem?_getD, List.getElem?_eq_getElem hj2, Option.getD_some, e2] at this
  | eref cs h ih => exact .eref _ _ rfl fun j hj => ih _ (mem_getD hj)
  | iface t x h ih => exact .iface _ _ _ ih
  | agg cs h ih => exact .agg _ _ rfl fun j hj => ih _ (mem_getD hj)
  | tup cs h ih => exact .tup _ _ rfl fun j hj => ih _ (mem_getD hj)
/-- A slice of a program's tree: nil, or a row that nobody owns. -/
def sl (z : Nat) (nl : Bool) (es : List AV) : AV := if (nl && es.isEmpty) = true then .pl (.slice none 0 0) else .row none false z es
theorem sl_slc (z : Nat) (nl : Bool) (es : List AV) : Slc z es (sl z nl es) := by
  unfold sl
  split
  · rename_i q
    simp only [Bool.and_eq_true, List.isEmpty_iff] at q
    rw [q.2]
    exact .nil z
  · exact .row _ _ _ _
theorem Tre.sl {z : Nat} {nl : Bool} {es : List AV} (h : ∀ e, e ∈ es → Tre e) : Tre (sl z nl es) := by
  unfold Go.Qa.sl
  split
  · exact .pl _
  · exact .row _ _ _ h
/-- A slice is handed on, its owner forgotten. -/
theorem Slc.wk {φ : Nat → Nat} {m z : Nat} {es : List AV} {r : AV} (s : Slc z es r) (h : ∀ e, e ∈ es → Tre e) : ∃ nl, Wk φ m r (sl z nl es) := by
  rcases s with ⟨rfl, rfl⟩ | ⟨o, f, rfl⟩
  · exact ⟨true, .pl _⟩
  · refine ⟨false, ?_⟩
    have : sl z false es = .row none false z es := rfl
    rw [this]
    have := Tre.wk (φ := φ) (m := m) (Tre.row f z es h)
    cases this with
    | row _ _ _ _ _ _ _ hl ho hf hk hh => exact .row _ _ _ _ _ _ _ rfl (.inl rfl) (fun q => by cases q) hk hh
end
end Go.Qa
/- The abstract machine: joins whose heap is as it was; loads, bounds and places step by step. -/
namespace Go.Qa
open Go Go.RowKit

theorem and_x1 {t b : Bool} {K : EH → AV → Prop} {B : (AV → EH → Prop) → Prop} {h : EH} (hB : t = true → ∀ J : AV → EH → Prop, (J (.bool b) h) → B J) (hK : K h (.bool (t && b))) :
    ∃ J : AV → EH → Prop, (∀ v0 h', J v0 h' → pk (.bool t) v0 (.bool false) (K h')) ∧ cg (.bool t) true (B J) (J (.pl undef) h) := by
  refine ⟨fun v0 h' => h' = h ∧ (t = true → v0 = .bool b), fun v0 h' j => ?_, ?_⟩
  · obtain ⟨rfl, j⟩ := j
    cases t with
    | false => exact hK
    | true =>
      rw [j rfl]
      exact hK
  · cases t with
    | false => exact ⟨rfl, fun z => by cases z⟩
    | true => exact hB rfl _ (⟨rfl, fun _ => rfl⟩)
theorem or_x1 {t b : Bool} {K : EH → AV → Prop} {B : (AV → EH → Prop) → Prop} {h : EH} (hB : t = false → ∀ J : AV → EH → Prop, (J (.bool b) h) → B J) (hK : K h (.bool (t || b))) :
    ∃ J : AV → EH → Prop, (∀ v0 h', J v0 h' → pk (.bool t) (.bool true) v0 (K h')) ∧ cg (.bool t) false (B J) (J (.pl undef) h) := by
  refine ⟨fun v0 h' => h' = h ∧ (t = false → v0 = .bool b), fun v0 h' j => ?_, ?_⟩
  · obtain ⟨rfl, j⟩ := j
    cases t with
    | true => exact hK
    | false =>
      rw [j rfl]
      exact hK
  · cases t with
    | true => exact ⟨rfl, fun z => by cases z⟩
    | false => exact hB rfl _ (⟨rfl, fun _ => rfl⟩)
theorem and_x2 {t b : Bool} {K : EH → AV → Prop} {B : (AV → AV → EH → Prop) → Prop} {h : EH} (hB : t = true → ∀ J : AV → AV → EH → Prop, (∀ v0, J v0 (.bool b) h) → B J) (hK : K h (.bool (t && b))) :
    ∃ J : AV → AV → EH → Prop, (∀ v0 v1 h', J v0 v1 h' → pk (.bool t) v1 (.bool false) (K h')) ∧ cg (.bool t) true (B J) (J (.pl undef) (.pl undef) h) := by
  refine ⟨fun v0 v1 h' => h' = h ∧ (t = true → v1 = .bool b), fun v0 v1 h' j => ?_, ?_⟩
  · obtain ⟨rfl, j⟩ := j
    cases t with
    | false => exact hK
    | true =>
      rw [j rfl]
      exact hK
  · cases t with
    | false => exact ⟨rfl, fun z => by cases z⟩
    | true => exact hB rfl _ (fun _ => ⟨rfl, fun _ => rfl⟩)
theorem or_x2 {t b : Bool} {K : EH → AV → Prop} {B : (AV → AV → EH → Prop) → Prop} {h : EH} (hB : t = false → ∀ J : AV → AV → EH → Prop, (∀ v0, J v0 (.bool b) h) → B J) (hK : K h (.bool (t || b))) :
    ∃ J : AV → AV → EH → Prop, (∀ v0 v1 h', J v0 v1 h' → pk (.bool t) (.bool true) v1 (K h')) ∧ cg (.bool t) false (B J) (J (.pl undef) (.pl undef) h) := by
  refine ⟨fun v0 v1 h' => h' = h ∧ (t = false → v1 = .bool b), fun v0 v1 h' j => ?_, ?_⟩
  · obtain ⟨rfl, j⟩ := j
    cases t with
    | true => exact hK
    | false =>
      rw [j rfl]
      exact hK
  · cases t with
    | true => exact ⟨rfl, fun z => by cases z⟩
    | false => exact hB rfl _ (fun _ => ⟨rfl, fun _ => rfl⟩)
theorem and_x3 {t b : Bool} {K : EH → AV → Prop} {B : (AV → AV → AV → EH → Prop) → Prop} {h : EH} (hB : t = true → ∀ J : AV → AV → AV → EH → Prop, (∀ v0 v1, J v0 v1 (.bool b) h) → B J) (hK : K h (.bool (t && b))) :
    ∃ J : AV → AV → AV → EH → Prop, (∀ v0 v1 v2 h', J v0 v1 v2 h' → pk (.bool t) v2 (.bool false) (K h')) ∧ cg (.bool t) true (B J) (J (.pl undef) (.pl undef) (.pl undef) h) := by
  refine ⟨fun v0 v1 v2 h' => h' = h ∧ (t = true → v2 = .bool b), fun v0 v1 v2 h' j => ?_, ?_⟩
  · obtain ⟨rfl, j⟩ := j
    cases t with
    | false => exact hK
    | true =>
      rw [j rfl]
      exact hK
  · cases t with
    | false => exact ⟨rfl, fun z => by cases z⟩
    | true => exact hB rfl _ (fun _ _ => ⟨rfl, fun _ => rfl⟩)
theorem or_x3 {t b : Bool} {K : EH → AV → Prop} {B : (AV → AV → AV → EH → Prop) → Prop} {h : EH} (hB : t = false → ∀ J : AV → AV → AV → EH → Prop, (∀ v0 v1, J v0 v1 (.bool b) h) → B J) (hK : K h (.bool (t || b))) :
    ∃ J : AV → AV → AV → EH → Prop, (∀ v0 v1 v2 h', J v0 v1 v2 h' → pk (.bool t) (.bool true) v2 (K h')) ∧ cg (.bool t) false (B J) (J (.pl undef) (.pl undef) (.pl undef) h) := by
  refine ⟨fun v0 v1 v2 h' => h' = h ∧ (t = false → v2 = .bool b), fun v0 v1 v2 h' j => ?_, ?_⟩
  · obtain ⟨rfl, j⟩ := j
    cases t with
    | true => exact hK
    | false =>
      rw [j rfl]
      exact hK
  · cases t with
    | true => exact ⟨rfl, fun z => by cases z⟩
    | false => exact hB rfl _ (fun _ _ => ⟨rfl, fun _ => rfl⟩)
theorem and_x4 {t b : Bool} {K : EH → AV → Prop} {B : (AV → AV → AV → AV → EH → Prop) → Prop} {h : EH} (hB : t = true → ∀ J : AV → AV → AV → AV → EH → Prop, (∀ v0 v1 v2, J v0 v1 v2 (.bool b) h) → B J) (hK : K h (.bool (t && b))) :
    ∃ J : AV → AV → AV → AV → EH → Prop, (∀ v0 v1 v2 v3 h', J v0 v1 v2 v3 h' → pk (.bool t) v3 (.bool false) (K h')) ∧ cg (.bool t) true (B J) (J (.pl undef) (.pl undef) (.pl undef) (.pl undef) h) := by
  refine ⟨fun v0 v1 v2 v3 h' => h' = h ∧ (t = true → v3 = .bool b), fun v0 v1 v2 v3 h' j => ?_, ?_⟩
  · obtain ⟨rfl, j⟩ := j
    cases t with
    | false => exact hK
    | true =>
      rw [j rfl]
      exact hK
  · cases t with
    | false => exact ⟨rfl, fun z => by cases z⟩
    | true => exact hB rfl _ (fun _ _ _ => ⟨rfl, fun _ => rfl⟩)
theorem or_x4 {t b : Bool} {K : EH → AV → Prop} {B : (AV → AV → AV → AV → EH → Prop) → Prop} {h : EH} (hB : t = false → ∀ J : AV → AV → AV → AV → EH → Prop, (∀ v0 v1 v2, J v0 v1 v2 (.bool b) h) → B J) (hK : K h (.bool (t || b))) :
    ∃ J : AV → AV → AV → AV → EH → Prop, (∀ v0 v1 v2 v3 h', J v0 v1 v2 v3 h' → pk (.bool t) (.bool true) v3 (K h')) ∧ cg (.bool t) false (B J) (J (.pl undef) (.pl undef) (.pl undef) (.pl undef) h) := by
  refine ⟨fun v0 v1 v2 v3 h' => h' = h ∧ (t = false → v3 = .bool b), fun v0 v1 v2 v3 h' j => ?_, ?_⟩
  · obtain ⟨rfl, j⟩ := j
    cases t with
    | true => exact hK
    | false =>
      rw [j rfl]
      exact hK
  · cases t with
    | true => exact ⟨rfl, fun z => by cases z⟩
    | false => exact hB rfl _ (fun _ _ _ => ⟨rfl, fun _ => rfl⟩)
theorem and_x5 {t b : Bool} {K : EH → AV → Prop} {B : (AV → AV → AV → AV → AV → EH → Prop) → Prop} {h : EH} (hB : t = true → ∀ J : AV → AV → AV → AV → AV → EH → Prop, (∀ v0 v1 v2 v3, J v0 v1 v2 v3 (.bool b) h) → B J) (hK : K h (.bool (t && b))) :
    ∃ J : AV → AV → AV → AV → AV → EH → Prop, (∀ v0 v1 v2 v3 v4 h', J v0 v1 v2 v3 v4 h' → pk (.bool t) v4 (.bool false) (K h')) ∧ cg (.bool t) true (B J) (J (.pl undef) (.pl undef) (.pl undef) (.pl undef) (.pl undef) h) := by
  refine ⟨fun v0 v1 v2 v3 v4 h' => h' = h ∧ (t = true → v4 = .bool b), fun v0 v1 v2 v3 v4 h' j => ?_, ?_⟩
  · obtain ⟨rfl, j⟩ := j
    cases t with
    | false => exact hK
    | true =>
      rw [j rfl]
      exact hK
  · cases t with
    | false => exact ⟨rfl, fun z => by cases z⟩
    | true => exact hB rfl _ (fun _ _ _ _ => ⟨rfl, fun _ => rfl⟩)
theorem or_x5 {t b : Bool} {K : EH → AV → Prop} {B : (AV → AV → AV → AV → AV → EH → Prop) → Prop} {h : EH} (hB : t = false → ∀ J : AV → AV → AV → AV → AV → EH → Prop, (∀ v0 v1 v2 v3, J v0 v1 v2 v3 (.bool b) h) → B J) (hK : K h (.bool (t || b))) :
    ∃ J : AV → AV → AV → AV → AV → EH → Prop, (∀ v0 v1 v2 v3 v4 h', J v0 v1 v2 v3 v4 h' → pk (.bool t) (.bool true) v4 (K h')) ∧ cg (.bool t) false (B J) (J (.pl undef) (.pl undef) (.pl undef) (.pl undef) (.pl undef) h) := by
  refine ⟨fun v0 v1 v2 v3 v4 h' => h' = h ∧ (t = false → v4 = .bool b), fun v0 v1 v2 v3 v4 h' j => ?_, ?_⟩
  · obtain ⟨rfl, j⟩ := j
    cases t with
    | true => exact hK
    | false =>
      rw [j rfl]
      exact hK
  · cases t with
    | true => exact ⟨rfl, fun z => by cases z⟩
    | false => exact hB rfl _ (fun _ _ _ _ => ⟨rfl, fun _ => rfl⟩)
theorem and_x7 {t b : Bool} {K : EH → AV → Prop} {B : (AV → AV → AV → AV → AV → AV → AV → EH → Prop) → Prop} {h : EH} (hB : t = true → ∀ J : AV → AV → AV → AV → AV → AV → AV → EH → Prop, (∀ v0 v1 v2 v3 v4 v5, J v0 v1 v2 v3 v4 v5 (.bool b) h) → B J) (hK : K h (.bool (t && b))) :
    ∃ J : AV → AV → AV → AV → AV → AV → AV → EH → Prop, (∀ v0 v1 v2 v3 v4 v5 v6 h', J v0 v1 v2 v3 v4 v5 v6 h' → pk (.bool t) v6 (.bool false) (K h')) ∧ cg (.bool t) true (B J) (J (.pl undef) (.pl undef) (.pl undef) (.pl undef) (.pl undef) (.pl undef) (.pl undef) h) := by
  refine ⟨fun v0 v1 v2 v3 v4 v5 v6 h' => h' = h ∧ (t = true → v6 = .bool b), fun v0 v1 v2 v3 v4 v5 v6 h' j => ?_, ?_⟩
  · obtain ⟨rfl, j⟩ := j
    cases t with
    | false => exact hK
    | true =>
      rw [j rfl]
      exact hK
  · cases t with
    | false => exact ⟨rfl, fun z => by cases z⟩
    | true => exact hB rfl _ (fun _ _ _ _ _ _ => ⟨rfl, fun _ => rfl⟩)
theorem or_x7 {t b : Bool} {K : EH → AV → Prop} {B : (AV → AV → AV → AV → AV → AV → AV → EH → Prop) → Prop} {h : EH} (hB : t = false → ∀ J : AV → AV → AV → AV → AV → AV → AV → EH → Prop, (∀ v0 v1 v2 v3 v4 v5, J v0 v1 v2 v3 v4 v5 (.bool b) h) → B J) (hK : K h (.bool (t || b))) :
    ∃ J : AV → AV → AV → AV → AV → AV → AV → EH → Prop, (∀ v0 v1 v2 v3 v4 v5 v6 h', J v0 v1 v2 v3 v4 v5 v6 h' → pk (.bool t) (.bool true) v6 (K h')) ∧ cg (.bool t) false (B J) (J (.pl undef) (.pl undef) (.pl undef) (.pl undef) (.pl undef) (.pl undef) (.pl undef) h) := by
  refine ⟨fun v0 v1 v2 v3 v4 v5 v6 h' => h' = h ∧ (t = false → v6 = .bool b), fun v0 v1 v2 v3 v4 v5 v6 h' j => ?_, ?_⟩
  · obtain ⟨rfl, j⟩ := j
    cases t with
    | true => exact hK
    | false =>
      rw [j rfl]
      exact hK
  · cases t with
    | true => exact ⟨rfl, fun z => by cases z⟩
    | false => exact hB rfl _ (fun _ _ _ _ _ _ => ⟨rfl, fun _ => rfl⟩)
theorem and_x8 {t b : Bool} {K : EH → AV → Prop} {B : (AV → AV → AV → AV → AV → AV → AV → AV → EH → Prop) → Prop} {h : EH} (hB : t = true → ∀ J : AV → AV → AV → AV → AV → AV → AV → AV → EH → Prop, (∀ v0 v1 v2 v3 v4 v5 v6, J v0 v1 v2 v3 v4 v5 v6 (.bool b) h) → B J) (hK : K h (.bool (t && b))) :
    ∃ J : AV → AV → AV → AV → AV → AV → AV → AV → EH → Prop, (∀ v0 v1 v2 v3 v4 v5 v6 v7 h', J v0 v1 v2 v3 v4 v5 v6 v7 h' → pk (.bool t) v7 (.bool false) (K h')) ∧ cg (.bool t) true (B J) (J (.pl undef) (.pl undef) (.pl undef) (.pl undef) (.pl undef) (.pl undef) (.pl undef) (.pl undef) h) := by
  refine ⟨fun v0 v1 v2 v3 v4 v5 v6 v7 h' => h' = h ∧ (t = true → v7 = .bool b), fun v0 v1 v2 v3 v4 v5 v6 v7 h' j => ?_, ?_⟩
  · obtain ⟨rfl, j⟩ := j
    cases t with
    | false => exact hK
    | true =>
      rw [j rfl]
      exact hK
  · cases t with
    | false => exact ⟨rfl, fun z => by cases z⟩
    | true => exact hB rfl _ (fun _ _ _ _ _ _ _ => ⟨rfl, fun _ => rfl⟩)
theorem or_x8 {t b : Bool} {K : EH → AV → Prop} {B : (AV → AV → AV → AV → AV → AV → AV → AV → EH → Prop) → Prop} {h : EH} (hB : t = false → ∀ J : AV → AV → AV → AV → AV → AV → AV → AV → EH → Prop, (∀ v0 v1 v2 v3 v4 v5 v6, J v0 v1 v2 v3 v4 v5 v6 (.bool b) h) → B J) (hK : K h (.bool (t || b))) :
    ∃ J : AV → AV → AV → AV → AV → AV → AV → AV → EH → Prop, (∀ v0 v1 v2 v3 v4 v5 v6 v7 h', J v0 v1 v2 v3 v4 v5 v6 v7 h' → pk (.bool t) (.bool true) v7 (K h')) ∧ cg (.bool t) false (B J) (J (.pl undef) (.pl undef) (.pl undef) (.pl undef) (.pl undef) (.pl undef) (.pl undef) (.pl undef) h) := by
  refine ⟨fun v0 v1 v2 v3 v4 v5 v6 v7 h' => h' = h ∧ (t = false → v7 = .bool b), fun v0 v1 v2 v3 v4 v5 v6 v7 h' j => ?_, ?_⟩
  · obtain ⟨rfl, j⟩ := j
    cases t with
    | true => exact hK
    | false =>
      rw [j rfl]
      exact hK
  · cases t with
    | true => exact ⟨rfl, fun z => by cases z⟩
    | false => exact hB rfl _ (fun _ _ _ _ _ _ _ => ⟨rfl, fun _ => rfl⟩)
theorem and_x9 {t b : Bool} {K : EH → AV → Prop} {B : (AV → AV → AV → AV → AV → AV → AV → AV → AV → EH → Prop) → Prop} {h : EH} (hB : t = true → ∀ J : AV → AV → AV → AV → AV → AV → AV → AV → AV → EH → Prop, (∀ v0 v1 v2 v3 v4 v5 v6 v7, J v0 v1 v2 v3 v4 v5 v6 v7 (.bool b) h) → B J) (hK : K h (.bool (t && b))) :
    ∃ J : AV → AV → AV → AV → AV → AV → AV → AV → AV → EH → Prop, (∀ v0 v1 v2 v3 v4 v5 v6 v7 v8 h', J v0 v1 v2 v3 v4 v5 v6 v7 v8 h' → pk (.bool t) v8 (.bool false) (K h')) ∧ cg (.bool t) true (B J) (J (.pl undef) (.pl undef) (.pl undef) (.pl undef) (.pl undef) (.pl undef) (.pl undef) (.pl undef) (.pl undef) h) := by
  refine ⟨fun v0 v1 v2 v3 v4 v5 v6 v7 v8 h' => h' = h ∧ (t = true → v8 = .bool b), fun v0 v1 v2 v3 v4 v5 v6 v7 v8 h' j => ?_, ?_⟩
  · obtain ⟨rfl, j⟩ := j
    cases t with
    | false => exact hK
    | true =>
      rw [j rfl]
      exact hK
  · cases t with
    | false => exact ⟨rfl, fun z => by cases z⟩
    | true => exact hB rfl _ (fun _ _ _ _ _ _ _ _ => ⟨rfl, fun _ => rfl⟩)
theorem or_x9 {t b : Bool} {K : EH → AV → Prop} {B : (AV → AV → AV → AV → AV → AV → AV → AV → AV → EH → Prop) → Prop} {h : EH} (hB : t = false → ∀ J : AV → AV → AV → AV → AV → AV → AV → AV → AV → EH → Prop, (∀ v0 v1 v2 v3 v4 v5 v6 v7, J v0 v1 v2 v3 v4 v5 v6 v7 (.bool b) h) → B J) (hK : K h (.bool (t || b))) :
    ∃ J : AV → AV → AV → AV → AV → AV → AV → AV → AV → EH → Prop, (∀ v0 v1 v2 v3 v4 v5 v6 v7 v8 h', J v0 v1 v2 v3 v4 v5 v6 v7 v8 h' → pk (.bool t) (.bool true) v8 (K h')) ∧ cg (.bool t) false (B J) (J (.pl undef) (.pl undef) (.pl undef) (.pl undef) (.pl undef) (.pl undef) (.pl undef) (.pl undef) (.pl undef) h) := by
  refine ⟨fun v0 v1 v2 v3 v4 v5 v6 v7 v8 h' => h' = h ∧ (t = false → v8 = .bool b), fun v0 v1 v2 v3 v4 v5 v6 v7 v8 h' j => ?_, ?_⟩
  · obtain ⟨rfl, j⟩ := j
    cases t with
    | true => exact hK
    | false =>
      rw [j rfl]
      exact hK
  · cases t with
    | true => exact ⟨rfl, fun z => by cases z⟩
    | false => exact hB rfl _ (fun _ _ _ _ _ _ _ _ => ⟨rfl, fun _ => rfl⟩)
theorem and_x10 {t b : Bool} {K : EH → AV → Prop} {B : (AV → AV → AV → AV → AV → AV → AV → AV → AV → AV → EH → Prop) → Prop} {h : EH} (hB : t = true → ∀ J : AV → AV → AV → AV → AV → AV → AV → AV → AV → AV → EH → Prop, (∀ v0 v1 v2 v3 v4 v5 v6 v7 v8, J v0 v1 v2 v3 v4 v5 v6 v7 v8 (.bool b) h) → B J) (hK : K h (.bool (t && b))) :
    ∃ J : AV → AV → AV → AV → AV → AV → AV → AV → AV → AV → EH → Prop, (∀ v0 v1 v2 v3 v4 v5 v6 v7 v8 v9 h', J v0 v1 v2 v3 v4 v5 v6 v7 v8 v9 h' → pk (.bool t) v9 (.bool false) (K h')) ∧ cg (.bool t) true (B J) (J (.pl undef) (.pl undef) (.pl undef) (.pl undef) (.pl undef) (.pl undef) (.pl undef) (.pl undef) (.pl undef) (.pl undef) h) := by
  refine ⟨fun v0 v1 v2 v3 v4 v5 v6 v7 v8 v9 h' => h' = h ∧ (t = true → v9 = .bool b), fun v0 v1 v2 v3 v4 v5 v6 v7 v8 v9 h' j => ?_, ?_⟩
  · obtain ⟨rfl, j⟩ := j
    cases t with
    | false => exact hK
    | true =>
      rw [j rfl]
      exact hK
  · cases t with
    | false => exact ⟨rfl, fun z => by cases z⟩
    | true => exact hB rfl _ (fun _ _ _ _ _ _ _ _ _ => ⟨rfl, fun _ => rfl⟩)
theorem or_x10 {t b : Bool} {K : EH → AV → Prop} {B : (AV → AV → AV → AV → AV → AV → AV → AV → AV → AV → EH → Prop) → Prop} {h : EH} (hB : t = false → ∀ J : AV → AV → AV → AV → AV → AV → AV → AV → AV → AV → EH → Prop, (∀ v0 v1 v2 v3 v4 v5 v6 v7 v8, J v0 v1 v2 v3 v4 v5 v6 v7 v8 (.bool b) h) → B J) (hK : K h (.bool (t || b))) :
    ∃ J : AV → AV → AV → AV → AV → AV → AV → AV → AV → AV → EH → Prop, (∀ v0 v1 v2 v3 v4 v5 v6 v7 v8 v9 h', J v0 v1 v2 v3 v4 v5 v6 v7 v8 v9 h' → pk (.bool t) (.bool true) v9 (K h')) ∧ cg (.bool t) false (B J) (J (.pl undef) (.pl undef) (.pl undef) (.pl undef) (.pl undef) (.pl undef) (.pl undef) (.pl undef) (.pl undef) (.pl undef) h) := by
  refine ⟨fun v0 v1 v2 v3 v4 v5 v6 v7 v8 v9 h' => h' = h ∧ (t = false → v9 = .bool b), fun v0 v1 v2 v3 v4 v5 v6 v7 v8 v9 h' j => ?_, ?_⟩
  · obtain ⟨rfl, j⟩ := j
    cases t with
    | true => exact hK
    | false =>
      rw [j rfl]
      exact hK
  · cases t with
    | true => exact ⟨rfl, fun z => by cases z⟩
    | false => exact hB rfl _ (fun _ _ _ _ _ _ _ _ _ => ⟨rfl, fun _ => rfl⟩)
theorem and_x12 {t b : Bool} {K : EH → AV → Prop} {B : (AV → AV → AV → AV → AV → AV → AV → AV → AV → AV → AV → AV → EH → Prop) → Prop} {h : EH} (hB : t = true → ∀ J : AV → AV → AV → AV → AV → AV → AV → AV → AV → AV → AV → AV → EH → Prop, (∀ v0 v1 v2 v3 v4 v5 v6 v7 v8 v9 v10, J v0 v1 v2 v3 v4 v5 v6 v7 v8 v9 v10 (.bool b) h) → B J) (hK : K h (.bool (t && b))) :
    ∃ J : AV → AV → AV → AV → AV → AV → AV → AV → AV → AV → AV → AV → EH → Prop, (∀ v0 v1 v2 v3 v4 v5 v6 v7 v8 v9 v10 v11 h', J v0 v1 v2 v3 v4 v5 v6 v7 v8 v9 v10 v11 h' → pk (.bool t) v11 (.bool false) (K h')) ∧ cg (.bool t) true (B J) (J (.pl undef) (.pl undef) (.pl undef) (.pl undef) (.pl undef) (.pl undef) (.pl undef) (.pl undef) (.pl undef) (.pl undef) (.pl undef) (.pl undef) h) := by
  refine ⟨fun v0 v1 v2 v3 v4 v5 v6 v7 v8 v9 v10 v11 h' => h' = h ∧ (t = true → v11 = .bool b), fun v0 v1 v2 v3 v4 v5 v6 v7 v8 v9 v10 v11 h' j => ?_, ?_⟩
  · obtain ⟨rfl, j⟩ := j
    cases t with
    | false => exact hK
    | true =>
      rw [j rfl]
      exact hK
  · cases t with
    | false => exact ⟨rfl, fun z => by cases z⟩
    | true => exact hB rfl _ (fun _ _ _ _ _ _ _ _ _ _ _ => ⟨rfl, fun _ => rfl⟩)
theorem or_x12 {t b : Bool} {K : EH → AV → Prop} {B : (AV → AV → AV → AV → AV → AV → AV → AV → AV → AV → AV → AV → EH → Prop) → Prop} {h : EH} (hB : t = false → ∀ J : AV → AV → AV → AV → AV → AV → AV → AV → AV → AV → AV → AV → EH → Prop, (∀ v0 v1 v2 v3 v4 v5 v6 v7 v8 v9 v10, J v0 v1 v2 v3 v4 v5 v6 v7 v8 v9 v10 (.bool b) h) → B J) (hK : K h (.bool (t || b))) :
    ∃ J : AV → AV → AV → AV → AV → AV → AV → AV → AV → AV → AV → AV → EH → Prop, (∀ v0 v1 v2 v3 v4 v5 v6 v7 v8 v9 v10 v11 h', J v0 v1 v2 v3 v4 v5 v6 v7 v8 v9 v10 v11 h' → pk (.bool t) (.bool true) v11 (K h')) ∧ cg (.bool t) false (B J) (J (.pl undef) (.pl undef) (.pl undef) (.pl undef) (.pl undef) (.pl undef) (.pl undef) (.pl undef) (.pl undef) (.pl undef) (.pl undef) (.pl undef) h) := by
  refine ⟨fun v0 v1 v2 v3 v4 v5 v6 v7 v8 v9 v10 v11 h' => h' = h ∧ (t = false → v11 = .bool b), fun v0 v1 v2 v3 v4 v5 v6 v7 v8 v9 v10 v11 h' j => ?_, ?_⟩
  · obtain ⟨rfl, j⟩ := j
    cases t with
    | true => exact hK
    | false =>
      rw [j rfl]
      exact hK
  · cases t with
    | true => exact ⟨rfl, fun z => by cases z⟩
    | false => exact hB rfl _ (fun _ _ _ _ _ _ _ _ _ _ _ => ⟨rfl, fun _ => rfl⟩)
theorem and_x14 {t b : Bool} {K : EH → AV → Prop} {B : (AV → AV → AV → AV → AV → AV → AV → AV → AV → AV → AV → AV → AV → AV → EH → Prop) → Prop} {h : EH} (hB : t = true → ∀ J : AV → AV → AV → AV → AV → AV → AV → AV → AV → AV → AV → AV → AV → AV → EH → Prop, (∀ v0 v1 v2 v3 v4 v5 v6 v7 v8 v9 v10 v11 v12, J v0 v1 v2 v3 v4 v5 v6 v7 v8 v9 v10 v11 v12 (.bool b) h) → B J) (hK : K h (.bool (t && b))) :
    ∃ J : AV → AV → AV → AV → AV → AV → AV → AV → AV → AV → AV → AV → AV → AV → EH → Prop, (∀ v0 v1 v2 v3 v4 v5 v6 v7 v8 v9 v10 v11 v12 v13 h', J v0 v1 v2 v3 v4 v5 v6 v7 v8 v9 v10 v11 v12 v13 h' → pk (.bool t) v13 (.bool false) (K h')) ∧ cg (.bool t) true (B J) (J (.pl undef) (.pl undef) (.pl undef) (.pl undef) (.pl undef) (.pl undef) (.pl undef) (.pl undef) (.pl undef) (.pl undef) (.pl undef) (.pl undef) (.pl undef) (.pl undef) h) := by
  refine ⟨fun v0 v1 v2 v3 v4 v5 v6 v7 v8 v9 v10 v11 v12 v13 h' => h' = h ∧ (t = true → v13 = .bool b), fun v0 v1 v2 v3 v4 v5 v6 v7 v8 v9 v10 v11 v12 v13 h' j => ?_, ?_⟩
  · obtain ⟨rfl, j⟩ := j
    cases t with
    | false => exact hK
    | true =>
      rw [j rfl]
      exact hK
  · cases t with
    | false => exact ⟨rfl, fun z => by cases z⟩
    | true => exact hB rfl _ (fun _ _ _ _ _ _ _ _ _ _ _ _ _ => ⟨rfl, fun _ => rfl⟩)
theorem or_x14 {t b : Bool} {K : EH → AV → Prop} {B : (AV → AV → AV → AV → AV → AV → AV → AV → AV → AV → AV → AV → AV → AV → EH → Prop) → Prop} {h : EH} (hB : t = false → ∀ J : AV → AV → AV → AV → AV → AV → AV → AV → AV → AV → AV → AV → AV → AV → EH → Prop, (∀ v0 v1 v2 v3 v4 v5 v6 v7 v8 v9 v10 v11 v12, J v0 v1 v2 v3 v4 v5 v6 v7 v8 v9 v10 v11 v12 (.bool b) h) → B J) (hK : K h (.bool (t || b))) :
    ∃ J : AV → AV → AV → AV → AV → AV → AV → AV → AV → AV → AV → AV → AV → AV → EH → Prop, (∀ v0 v1 v2 v3 v4 v5 v6 v7 v8 v9 v10 v11 v12 v13 h', J v0 v1 v2 v3 v4 v5 v6 v7 v8 v9 v10 v11 v12 v13 h' → pk (.bool t) (.bool true) v13 (K h')) ∧ cg (.bool t) false (B J) (J (.pl undef) (.pl undef) (.pl undef) (.pl undef) (.pl undef) (.pl undef) (.pl undef) (.pl undef) (.pl undef) (.pl undef) (.pl undef) (.pl undef) (.pl undef) (.pl undef) h) := by
  refine ⟨fun v0 v1 v2 v3 v4 v5 v6 v7 v8 v9 v10 v11 v12 v13 h' => h' = h ∧ (t = false → v13 = .bool b), fun v0 v1 v2 v3 v4 v5 v6 v7 v8 v9 v10 v11 v12 v13 h' j => ?_, ?_⟩
  · obtain ⟨rfl, j⟩ := j
    cases t with
    | true => exact hK
    | false =>
      rw [j rfl]
      exact hK
  · cases t with
    | true => exact ⟨rfl, fun z => by cases z⟩
    | false => exact hB rfl _ (fun _ _ _ _ _ _ _ _ _ _ _ _ _ => ⟨rfl, fun _ => rfl⟩)
/-! ### One of several guards, one after another -/
section
variable {REST : AV → EH → Prop} {T : EH} {a b c d e f : Bool}
theorem sw2 (hR : REST (.bool (a || b)) T) : ∃ J : AV → EH → Prop, (∀ v h', J v h' → REST v h') ∧ cn (.bool a) (J (.bool a) T) (J (.bool b) T) :=
  ⟨fun v h' => h' = T ∧ v = .bool (a || b), fun v h' j => by rw [j.1, j.2]; exact hR, fun q => ⟨rfl, by rw [q]; rfl⟩, fun q => ⟨rfl, by rw [q]; rfl⟩⟩
theorem sw3 (hR : REST (.bool (a || (b || c))) T) : ∃ J : AV → EH → Prop, (∀ v h', J v h' → REST v h') ∧ cn (.bool a) (J (.bool a) T) (cn (.bool b) (J (.bool b) T) (J (.bool c) T)) :=
  ⟨fun v h' => h' = T ∧ v = .bool (a || (b || c)), fun v h' j => by rw [j.1, j.2]; exact hR, fun q => ⟨rfl, by rw [q]; rfl⟩, fun q => ⟨fun q2 => ⟨rfl, by rw [q, q2]; rfl⟩, fun q2 => ⟨rfl, by rw [q, q2]; rfl⟩⟩⟩
theorem sw6 (hR : REST (.bool (a || (b || (c || (d || (e || f)))))) T) : ∃ J : AV → EH → Prop, (∀ v h', J v h' → REST v h') ∧ cn (.bool a) (J (.bool a) T) (cn (.bool b) (J (.bool b) T) (cn (.bool c) (J (.bool c) T) (cn (.bool d) (J (.bool d) T) (cn (.bool e) (J (.bool e) T) (J (.bool f) T))))) := by
  refine ⟨fun v h' => h' = T ∧ v = .bool (a || (b || (c || (d || (e || f))))), fun v h' j => by rw [j.1, j.2]; exact hR, ?_⟩
  cases a <;> cases b <;> cases c <;> cases d <;> cases e <;> simp [cn_true, cn_false]
end
/-! ### What stands at a place -/
section
variable {h : EH} {b c : Nat} {o x : AObj}
theorem hp1 (q : h.get b = some o) : (h.push x).get b = some o := EH.get_push_of q
theorem hw1 (e : b ≠ c) (q : h.get b = some o) : (h.set c x).get b = some o := by rw [get_set_ne e, q]
theorem hs1 (l : b < h.n) : (h.set b x).get b = some x := get_set_eq rfl l
theorem hn1 : (h.push x).get h.n = some x := EH.get_push_self h x
theorem hn2 (e : b = h.n) : (h.push x).get b = some x := get_push_eq e
end
/-- A guard of the machine's. -/
theorem cn_l {t : Bool} {a b : Prop} (h1 : t = true → a) (h2 : t = false → b) : cn (.bool t) a b := ⟨h1, h2⟩
theorem cg_l {t : Bool} {a b : Prop} (h1 : t = true → a) (h2 : t = false → b) : cg (.bool t) true a b := by rw [cg_bt]; exact ⟨h1, h2⟩
theorem cg_r {t : Bool} {a b : Prop} (h1 : t = false → a) (h2 : t = true → b) : cg (.bool t) false a b := by rw [cg_bf]; exact ⟨h1, h2⟩
/-! ### What is not looked into before its turn -/
def cnB (x : AV) (a b : Prop) (_ : Tag a) (_ : Tag b) : Prop := cn x a b
def cgB (x : AV) (w : Bool) (a b : Prop) (_ : Tag a) (_ : Tag b) : Prop := cg x w a b
theorem cn_B (x : AV) (a b : Prop) : cn x a b = cnB x a b .mk .mk := rfl
theorem cg_B (x : AV) (w : Bool) (a b : Prop) : cg x w a b = cgB x w a b .mk .mk := rfl
@[go_sem] theorem cnB_true (a b : Prop) (s : Tag a) (t : Tag b) : cnB (.bool true) a b s t = a := by simp only [cnB, cn_true]
@[go_sem] theorem cnB_false (a b : Prop) (s : Tag a) (t : Tag b) : cnB (.bool false) a b s t = b := by simp only [cnB, cn_false]
@[go_sem] theorem cgB_tt (a b : Prop) (s : Tag a) (t : Tag b) : cgB (.bool true) true a b s t = a := by simp only [cgB, cg_tt]
@[go_sem] theorem cgB_ft (a b : Prop) (s : Tag a) (t : Tag b) : cgB (.bool false) true a b s t = b := by simp only [cgB, cg_ft]
@[go_sem] theorem cgB_tf (a b : Prop) (s : Tag a) (t : Tag b) : cgB (.bool true) false a b s t = b := by simp only [cgB, cg_tf]
@[go_sem] theorem cgB_ff (a b : Prop) (s : Tag a) (t : Tag b) : cgB (.bool false) false a b s t = a := by simp only [cgB, cg_ff]
@[go_sem] theorem cgB_undef (w : Bool) (a b : Prop) (s : Tag a) (t : Tag b) : cgB (.pl undef) w a b s t = b := by simp only [cgB, cg_undef]
attribute [go_sem] sEq_eq List.getElem?_cons_zero List.getElem?_cons_succ List.head?_cons List.drop_succ_cons List.drop_zero List.take_succ_cons List.take_zero List.length_cons List.length_nil List.length_map List.all_cons List.all_nil List.map_cons List.map_nil Nat.zero_add Nat.add_zero Nat.le_refl Int.toNat_zero Int.toNat_natCast and_self and_true true_and if_true if_false Bool.and_true Bool.and_self Bool.true_and Bool.false_eq_true AV.isSize beq_self_eq_true decide_true decide_false List.nil_append forall_const Bool.not_true Bool.not_false imp_self true_implies false_implies List.getD_cons_zero List.getD_cons_succ Int.cast_ofNat_Int bne_self_eq_false Int.add_sub_cancel
attribute [go_sem] get_push_ne get_push_eq get_set_ne get_set_eq EH.get_push_self w64
attribute [go_sem] decide_eq_true_eq decide_eq_false_iff_not beq_iff_eq beq_eq_false_iff_ne bne_iff_ne bne_eq_false_iff_eq Bool.and_eq_true Bool.or_eq_true Bool.or_eq_false_iff Bool.not_eq_true' Bool.not_eq_false' Int.not_lt Int.not_le ne_eq Bool.true_eq_false not_true_eq_false not_false_eq_true
end Go.Qa
/- Trees of a program as Lean's: tokens, expressions, how they stand to abstract values. -/
namespace Go.Qa
open Go Go.RowKit

/-! ### Slices of a tree -/
section
variable {K : AV → Prop} {h : EH} {z : Nat} {nl : Bool} {es : List AV}
theorem sl_cases (z : Nat) (nl : Bool) (es : List AV) : (sl z nl es = .pl (.slice none 0 0) ∧ es = []) ∨ sl z nl es = .row none false z es := by
  unfold sl
  split
  · rename_i q
    simp only [Bool.and_eq_true, List.isEmpty_iff] at q
    exact .inl ⟨rfl, q.2⟩
  · exact .inr rfl
@[go_sem] theorem one_sl (z : Nat) (nl : Bool) (es : List AV) : AV.one (sl z nl es) = true := (sl_slc z nl es).one
@[go_sem] theorem gl_sl (z : Nat) (nl : Bool) (es : List AV) : AV.glob (sl z nl es) = true := (sl_slc z nl es).glob
@[go_sem] theorem cl_sl (z : Nat) (nl : Bool) (es : List AV) : AV.cells? (sl z nl es) = some [sl z nl es] := (sl_slc z nl es).cells
@[go_sem] theorem lnR_sl (z : Nat) (nl : Bool) (es : List AV) : lnR (sl z nl es) K = K (.int .i64 es.length) := (sl_slc z nl es).ln
@[go_sem] theorem ia_sl (z : Nat) (nl : Bool) (es : List AV) (q : IntKind) (n : Int) : ia z (sl z nl es) (.int q n) K = ((0 ≤ n ∧ n < es.length) ∧ K (.eref (es.getD n.toNat .any).cells)) := (sl_slc z nl es).ia q n
theorem sl_cons (z : Nat) (nl : Bool) (e : AV) (es : List AV) : sl z nl (e :: es) = .row none false z (e :: es) := by simp [sl]
theorem sl_ne {z : Nat} {nl : Bool} {es : List AV} (q : es ≠ []) : sl z nl es = .row none false z es := by
  cases es with
  | nil => exact absurd rfl q
  | cons e es => exact sl_cons z nl e es
theorem cs_sl (z : Nat) (nl : Bool) (es : List AV) : AV.cells (sl z nl es) = [sl z nl es] := by simp only [AV.cells, cl_sl, Option.getD_some]
@[go_sem] theorem imax_eq (a b : Int) : xW (.imax (.c (.int .i64 a)) (.c (.int .i64 b))) h K = K (.int .i64 (max a b)) := by
  unfold xW
  show optP (XExp.evE _ S0 h) K = _
  simp only [XExp.evE, XExp.ev, S0_c]
  have e : (if a < b then b else a) = max a b := by split <;> omega
  rw [if_pos trivial, optP_some, e]
end

/-! ### Tokens -/
abbrev Bs := List UInt8
abbrev Tok := Bs × Bs
def tokAV (t : Tok) : AV := .agg [.str t.1, .str t.2]
def tk (ts : List Tok) (i : Int) : Tok := ts.getD i.toNat ([], [])
def isT (ts : List Tok) (i : Int) (k t : Bs) : Bool := decide (i < ts.length) && (tk ts i).1 == k && (tk ts i).2 == t
/-- Whether a statement is an assignment by its looks: the brackets from a place on. -/
def asgL (ts : List Tok) (p : Int) : Nat → Int → Int → Bool
  | 0, _, _ => false
  | n + 1, d, i =>
    let d1 := if isT ts (p + i) [111, 112] [40] then IntKind.i64.wrap (d + 1) else d
    if isT ts (p + i) [111, 112] [41] then
      if IntKind.i64.wrap (d1 - 1) == 0 then isT ts (p + (i + 1)) [111, 112] [61] else asgL ts p n (IntKind.i64.wrap (d1 - 1)) (i + 1)
    else asgL ts p n d1 (i + 1)
def isAs (ts : List Tok) (p : Int) : Bool :=
  isT ts (p + 1) [111, 112] [61] || (!(decide ((ts.length : Int) - p < 2) || !((tk ts p).1 == [110, 97, 109, 101]) || !isT ts (p + 1) [111, 112] [40]) && asgL ts p (ts.length - p - 1).toNat 0 1)
def isCmp (s : Bs) : Bool := s == [61, 61] || (s == [47, 61] || (s == [60] || (s == [60, 61] || (s == [62] || s == [62, 61]))))
/-- A reader of tokens. -/
def WO (ts : List Tok) (p : Int) (bad : Bool) : AObj := .cells [.row none false 2 (ts.map tokAV), .int .i64 p, .bool bad]
@[go_sem] theorem tk_cells {ts : List Tok} {i : Int} (q : 0 ≤ i ∧ i < ts.length) : ((ts.map tokAV).getD i.toNat .any).cells = [.str (tk ts i).1, .str (tk ts i).2] := by
  have l : i.toNat < ts.length := by omega
  rw [tk, List.getD_eq_getElem?_getD, List.getElem?_map, List.getElem?_eq_getElem l, List.getD_eq_getElem?_getD, List.getElem?_eq_getElem l]
  rfl
theorem tk_mem {ts : List Tok} {i : Int} (q : 0 ≤ i ∧ i < ts.length) : tk ts i ∈ ts := by
  have l : i.toNat < ts.length := by omega
  rw [tk, List.getD_eq_getElem?_getD, List.getElem?_eq_getElem l]
  exact List.getElem_mem l
theorem isT_of {ts : List Tok} {i : Int} {k t : Bs} (q : isT ts i k t = true) : i < ts.length ∧ (tk ts i).1 = k ∧ (tk ts i).2 = t := by
  simp only [isT, Bool.and_eq_true, decide_eq_true_eq, beq_iff_eq] at q
  exact ⟨q.1.1, q.1.2, q.2⟩
theorem Tre.toks (ts : List Tok) : ∀ e, e ∈ ts.map tokAV → Tre e := fun e he => by
  obtain ⟨t, _, rfl⟩ := List.mem_map.1 he
  refine .agg _ fun e he => ?_
  simp only [List.mem_cons, List.not_mem_nil, or_false] at he
  rcases he with rfl | rfl <;> exact .str _
theorem WO_wk {φ : Nat → Nat} {m : Nat} (ts : List Tok) (p : Int) (bad : Bool) : OWk φ m (WO ts p bad) (WO ts p bad) :=
  .cells3 ⟨rfl, (Tre.row _ _ _ (Tre.toks ts)).wk⟩ ⟨rfl, .int _ _⟩ ⟨rfl, .bool _⟩

/-! ### Expressions -/
inductive TE where
  | mk (kind text : Bs) (n : Int) (nl : Bool) (kids : List TE)
def TE.kind : TE → Bs | .mk k _ _ _ _ => k
def TE.text : TE → Bs | .mk _ t _ _ _ => t
def TE.n : TE → Int | .mk _ _ n _ _ => n
def TE.nl : TE → Bool | .mk _ _ _ b _ => b
def TE.kids : TE → List TE | .mk _ _ _ _ l => l
mutual
def TE.cs : TE → List AV
  | .mk k t n nl l => [.str k, .str t, .int .i64 n, sl 4 nl (TE.avs l)]
def TE.avs : List TE → List AV
  | [] => []
  | e :: r => .agg (TE.cs e) :: TE.avs r
end
def TE.av (e : TE) : AV := .agg e.cs
mutual
/-- Its nodes, and their texts' bytes. -/
def TE.sz : TE → Nat
  | .mk _ t _ _ l => 1 + t.length + TE.szs l
def TE.szs : List TE → Nat
  | [] => 0
  | e :: r => TE.sz e + TE.szs r
end
mutual
/-- Its levels. -/
def TE.lev : TE → Nat
  | .mk _ _ _ _ l => TE.levs l + 1
def TE.levs : List TE → Nat
  | [] => 0
  | e :: r => max (TE.lev e) (TE.levs r)
end
def TE.dflt : TE := .mk [] [] 0 true []
theorem TE.avs_map : ∀ l : List TE, TE.avs l = l.map TE.av
  | [] => rfl
  | e :: r => by rw [TE.avs, TE.avs_map r]; rfl
theorem TE.cs_eq (e : TE) : e.cs = [.str e.kind, .str e.text, .int .i64 e.n, sl 4 e.nl (e.kids.map TE.av)] := by
  cases e
  rw [TE.cs, TE.avs_map]
  rfl
theorem TE.av_eq (e : TE) : e.av = .agg [.str e.kind, .str e.text, .int .i64 e.n, sl 4 e.nl (e.kids.map TE.av)] := by rw [TE.av, TE.cs_eq]
theorem TE.sz_pos (e : TE) : 1 ≤ e.sz := by cases e; rw [TE.sz]; omega
theorem TE.sz_mem : ∀ {l : List TE} {e : TE}, e ∈ l → e.sz ≤ TE.szs l
  | x :: r, e, h => by
    rw [TE.szs]
    rcases List.mem_cons.1 h with rfl | h
    · omega
    · have := TE.sz_mem h; omega
theorem TE.sz_kid {e k : TE} (h : k ∈ e.kids) : k.sz < e.sz := by
  cases e
  have : k.sz ≤ _ := TE.sz_mem h
  rw [TE.sz]
  simp only [TE.kids] at this
  omega
theorem TE.szs_len : ∀ l : List TE, l.length ≤ TE.szs l
  | [] => Nat.le_refl _
  | e :: r => by
    have := TE.szs_len r; have := e.sz_pos
    rw [TE.szs, List.length_cons]; omega
theorem TE.szs_append : ∀ a b : List TE, TE.szs (a ++ b) = TE.szs a + TE.szs b
  | [], b => by simp [TE.szs]
  | e :: r, b => by rw [List.cons_append, TE.szs, TE.szs, TE.szs_append r b]; omega
theorem TE.lev_le : ∀ n (e : TE), e.sz ≤ n → e.lev ≤ n
  | 0, e, h => by have := e.sz_pos; omega
  | n + 1, .mk k t m nl l, h => by
    rw [TE.lev]
    rw [TE.sz] at h
    have : ∀ l : List TE, TE.szs l ≤ n → TE.levs l ≤ n := by
      intro l
      induction l with
      | nil => intro _; rw [TE.levs]; omega
      | cons e r ih =>
        intro hl
        rw [TE.szs] at hl
        rw [TE.levs]
        have := TE.lev_le n e (by omega)
        have := ih (by omega)
        omega
    have := this l (by omega)
    omega
theorem TE.lev_take (l : List TE) (i : Nat) (q : i < l.length) : TE.levs (l.take (i + 1)) = max (TE.levs (l.take i)) (l.getD i TE.dflt).lev := by
  induction l generalizing i with
  | nil => simp at q
  | cons e r ih =>
    cases i with
    | zero => simp [TE.levs]
    | succ i =>
      have := ih i (by simpa using q)
      simp only [List.take_succ_cons, TE.levs, List.getD_cons_succ] at this ⊢
      rw [this]
      omega
theorem TE.levs_take : ∀ (l : List TE) (i : Nat), TE.levs (l.take i) ≤ TE.levs l
  | [], i => by simp [TE.levs]
  | e :: r, 0 => by simp [TE.levs]
  | e :: r, i + 1 => by
    have := TE.levs_take r i
    simp only [List.take_succ_cons, TE.levs]
    omega
theorem TE.szs_getD {l : List TE} {i : Nat} (q : i < l.length) : (l.getD i TE.dflt).sz ≤ TE.szs l := by
  refine TE.sz_mem ?_
  rw [List.getD_eq_getElem?_getD, List.getElem?_eq_getElem q]
  exact List.getElem_mem q
theorem TE.mem_getD {l : List TE} {i : Nat} (q : i < l.length) : l.getD i TE.dflt ∈ l := by
  rw [List.getD_eq_getElem?_getD, List.getElem?_eq_getElem q]
  exact List.getElem_mem q
theorem TE.all_one (e : TE) : e.cs.all AV.one = true := by rw [TE.cs_eq]; simp only [List.all_cons, List.all_nil, one_str, one_int, one_sl, Bool.and_self]
@[go_sem] theorem cl_av (e : TE) : AV.cells? e.av = some e.cs := by rw [TE.av, cl_agg, if_pos e.all_one]
@[go_sem] theorem gl_av (e : TE) : AV.glob e.av = true := rfl
theorem cells_av (e : TE) : AV.cells e.av = e.cs := by simp only [AV.cells, cl_av, Option.getD_some]
@[go_sem] theorem TE.kid_cells {l : List TE} {i : Int} (q : 0 ≤ i ∧ i < l.length) : ((l.map TE.av).getD i.toNat .any).cells = (l.getD i.toNat TE.dflt).cs := by
  have ll : i.toNat < l.length := by omega
  rw [List.getD_eq_getElem?_getD, List.getElem?_map, List.getElem?_eq_getElem ll, List.getD_eq_getElem?_getD, List.getElem?_eq_getElem ll]
  exact cells_av _
@[go_sem high] theorem ia_te {K : AV → Prop} (nl : Bool) (l : List TE) (q : IntKind) (n : Int) : ia 4 (sl 4 nl (l.map TE.av)) (.int q n) K = ((0 ≤ n ∧ n < l.length) ∧ K (.eref (l.getD n.toNat TE.dflt).cs)) := by
  rw [ia_sl, List.length_map]
  exact propext (and_congr_right fun z => by rw [TE.kid_cells z])
@[go_sem] theorem TE.cs_len (e : TE) : e.cs.length = 4 := by rw [TE.cs_eq]; rfl
@[go_sem] theorem TE.cs_take (e : TE) : e.cs.take 4 = e.cs := List.take_of_length_le (by rw [TE.cs_len]; omega)
@[go_sem] theorem TE.agg_cs (e : TE) : AV.agg e.cs = e.av := rfl
theorem Tre.expr : ∀ n (e : TE), e.sz ≤ n → Tre e.av
  | 0, e, h => by have := e.sz_pos; omega
  | n + 1, e, h => by
    rw [TE.av_eq]
    refine .agg _ fun x hx => ?_
    simp only [List.mem_cons, List.not_mem_nil, or_false] at hx
    rcases hx with rfl | rfl | rfl | rfl
    · exact .str _
    · exact .str _
    · exact .int _ _
    · refine Tre.sl fun y hy => ?_
      obtain ⟨k, hk, rfl⟩ := List.mem_map.1 hy
      have := TE.sz_kid hk
      exact Tre.expr n k (by omega)
theorem Tre.te (e : TE) : Tre e.av := Tre.expr _ e (Nat.le_refl _)
theorem Tre.tes (l : List TE) : ∀ x, x ∈ l.map TE.av → Tre x := fun x hx => by
  obtain ⟨k, _, rfl⟩ := List.mem_map.1 hx
  exact .te k
/-- One value stands for another one wherever it is handed. -/
def Rp (v x : AV) : Prop := ∀ φ m, Wk φ m v x
theorem Rp.of {x : AV} (t : Tre x) : Rp x x := fun _ _ => t.wk
theorem Rp.row {o : Option (Nat × Nat)} {f nl : Bool} {z : Nat} {es : List AV} (h : ∀ e, e ∈ es → Tre e) (q : es ≠ []) : Rp (.row o f z es) (sl z nl es) := by
  intro φ m
  rw [sl_ne q]
  have := Tre.wk (φ := φ) (m := m) (Tre.row f z es h)
  cases this with
  | row _ _ _ _ _ _ _ hl ho hf hk hh => exact .row _ _ _ _ _ _ _ rfl (.inl rfl) (fun q => by cases q) hk hh
/-- Cells that stand for an expression. -/
structure RE (v : AV) (e : TE) where
  kv : AV
  eq : v = .agg [.str e.kind, .str e.text, .int .i64 e.n, kv]
  one : kv.one = true
  rp : Rp kv (sl 4 e.nl (e.kids.map TE.av))
theorem re_av (e : TE) : ∃ kv, e.av = .agg [.str e.kind, .str e.text, .int .i64 e.n, kv] ∧ kv.one = true ∧ Rp kv (sl 4 e.nl (e.kids.map TE.av)) :=
  ⟨_, TE.av_eq e, one_sl _ _ _, .of (.sl (.tes _))⟩
theorem Wk.expr {φ : Nat → Nat} {m : Nat} {k t : Bs} {n : Int} {nl : Bool} {l : List TE} {kv : AV} (h : Wk φ m kv (sl 4 nl (l.map TE.av))) : Wk φ m (.agg [.str k, .str t, .int .i64 n, kv]) (TE.mk k t n nl l).av := by
  rw [TE.av_eq]
  exact .agg _ _ rfl fun j hj => match j, hj with
    | 0, _ => .str _
    | 1, _ => .str _
    | 2, _ => .int _ _
    | 3, _ => h

theorem Slc.rp {z : Nat} {es : List AV} {r : AV} (s : Slc z es r) (h : ∀ e, e ∈ es → Tre e) : ∃ nl, Rp r (sl z nl es) := by
  rcases s with ⟨rfl, rfl⟩ | ⟨o, f, rfl⟩
  · exact ⟨true, fun _ _ => .pl _⟩
  · refine ⟨false, fun φ m => ?_⟩
    have : sl z false es = .row none false z es := rfl
    rw [this]
    have := Tre.wk (φ := φ) (m := m) (Tre.row f z es h)
    cases this with
    | row _ _ _ _ _ _ _ hl ho hf hk hh => exact .row _ _ _ _ _ _ _ rfl (.inl rfl) (fun q => by cases q) hk hh
@[go_sem] theorem TE.cs0 (e : TE) : e.cs[0]? = some (.str e.kind) := by rw [TE.cs_eq]; rfl
@[go_sem] theorem TE.cs1 (e : TE) : e.cs[1]? = some (.str e.text) := by rw [TE.cs_eq]; rfl
@[go_sem] theorem TE.cs2 (e : TE) : e.cs[2]? = some (.int .i64 e.n) := by rw [TE.cs_eq]; rfl
@[go_sem] theorem TE.cs3 (e : TE) : e.cs[3]? = some (sl 4 e.nl (e.kids.map TE.av)) := by rw [TE.cs_eq]; rfl
theorem TE.lev_eq (e : TE) : e.lev = TE.levs e.kids + 1 := by cases e; rw [TE.lev]; rfl
theorem TE.sz_eq (e : TE) : e.sz = 1 + e.text.length + TE.szs e.kids := by cases e; rw [TE.sz]; rfl

/-- A value whose cells stand for an expression. -/
def RX (v : AV) (e : TE) : Prop := ∃ kv, v = .agg [.str e.kind, .str e.text, .int .i64 e.n, kv] ∧ kv.one = true ∧ Rp kv (sl 4 e.nl (e.kids.map TE.av))
theorem RX.av (e : TE) : RX e.av e := re_av e
theorem Wk.ex {φ : Nat → Nat} {m : Nat} {e : TE} {kv : AV} (h : Wk φ m kv (sl 4 e.nl (e.kids.map TE.av))) : Wk φ m (.agg [.str e.kind, .str e.text, .int .i64 e.n, kv]) e.av := by
  cases e
  exact Wk.expr h
theorem RX.wk {v : AV} {e : TE} (h : RX v e) : Rp v e.av := by
  obtain ⟨kv, rfl, _, r⟩ := h
  exact fun φ m => Wk.ex (r φ m)
theorem RX.cells {v : AV} {e : TE} (h : RX v e) : ∃ kv, v.cells? = some [.str e.kind, .str e.text, .int .i64 e.n, kv] ∧ v.cells = [.str e.kind, .str e.text, .int .i64 e.n, kv] ∧ Rp kv (sl 4 e.nl (e.kids.map TE.av)) := by
  obtain ⟨kv, rfl, o, r⟩ := h
  have : AV.cells? (.agg [.str e.kind, .str e.text, .int .i64 e.n, kv]) = some [.str e.kind, .str e.text, .int .i64 e.n, kv] := by
    rw [cl_agg, if_pos (by simp only [List.all_cons, List.all_nil, one_str, one_int, o, Bool.and_self])]
  exact ⟨kv, this, by simp only [AV.cells, this, Option.getD_some], r⟩
/-- A row of such values. -/
theorem RX.row {o : Option (Nat × Nat)} {f nl : Bool} {vs : List AV} {es : List TE} (hl : vs.length = es.length) (h : ∀ i, i < es.length → RX (vs.getD i .any) (es.getD i TE.dflt)) (q : es ≠ []) : Rp (.row o f 4 vs) (sl 4 nl (es.map TE.av)) := by
  intro φ m
  rw [sl_ne (by simpa using q)]
  have key : ∀ i, i < vs.length → ∃ e kv, RX (vs.getD i .any) e ∧ (es.map TE.av).getD i .any = e.av ∧ (vs.getD i .any).cells? = some [.str e.kind, .str e.text, .int .i64 e.n, kv] ∧ (vs.getD i .any).cells = [.str e.kind, .str e.text, .int .i64 e.n, kv] ∧ Rp kv (sl 4 e.nl (e.kids.map TE.av)) := fun i hi => by
    have hi' : i < es.length := by omega
    obtain ⟨kv, a, b, c⟩ := (h i hi').cells
    refine ⟨_, kv, h i hi', ?_, a, b, c⟩
    rw [List.getD_eq_getElem?_getD, List.getElem?_map, List.getElem?_eq_getElem hi', List.getD_eq_getElem?_getD, List.getElem?_eq_getElem hi']
    rfl
  refine .row _ _ _ _ _ _ _ (by simp [hl]) (.inl rfl) (fun q => by cases q) (fun i hi => ?_) fun i j hi hj => ?_
  · obtain ⟨e, kv, _, a, b, _, _⟩ := key i hi
    rw [a, b, cl_av]
    simp [TE.cs_len]
  · obtain ⟨e, kv, _, a, _, b, c⟩ := key i hi
    rw [a, b, cells_av, TE.cs_eq]
    match j, hj with
    | 0, _ => exact .str _
    | 1, _ => exact .str _
    | 2, _ => exact .int _ _
    | 3, _ => exact c φ m
theorem RX.row1 {o : Option (Nat × Nat)} {f nl : Bool} {v : AV} {e : TE} (h : RX v e) : Rp (.row o f 4 [v]) (sl 4 nl ([e].map TE.av)) :=
  RX.row rfl (fun i hi => match i, hi with | 0, _ => h) (by simp)
theorem RX.row2 {o : Option (Nat × Nat)} {f nl : Bool} {v v2 : AV} {e e2 : TE} (h : RX v e) (h2 : RX v2 e2) : Rp (.row o f 4 [v, v2]) (sl 4 nl ([e, e2].map TE.av)) :=
  RX.row rfl (fun i hi => match i, hi with | 0, _ => h | 1, _ => h2) (by simp)
theorem RX.row3 {o : Option (Nat × Nat)} {f nl : Bool} {v v2 v3 : AV} {e e2 e3 : TE} (h : RX v e) (h2 : RX v2 e2) (h3 : RX v3 e3) : Rp (.row o f 4 [v, v2, v3]) (sl 4 nl ([e, e2, e3].map TE.av)) :=
  RX.row rfl (fun i hi => match i, hi with | 0, _ => h | 1, _ => h2 | 2, _ => h3) (by simp)
theorem RX.mk {k t : Bs} {n : Int} {nl : Bool} {l : List TE} {kv : AV} (o : kv.one = true) (r : Rp kv (sl 4 nl (l.map TE.av))) : RX (.agg [.str k, .str t, .int .i64 n, kv]) (TE.mk k t n nl l) := ⟨kv, rfl, o, r⟩
@[go_sem] theorem over_te (a b c d : AV) (e : TE) : over [a, b, c, d] 0 e.cs = e.cs := over_all _ _ (by rw [TE.cs_len]; rfl)
@[go_sem] theorem over_te2 (e e2 : TE) : over e.cs 0 e2.cs = e2.cs := over_all _ _ (by rw [TE.cs_len, TE.cs_len])
/-- A text of a list of texts. -/
@[go_sem] theorem strs_cells {l : List Bs} {i : Int} (q : 0 ≤ i ∧ i < l.length) : ((l.map AV.str).getD i.toNat .any).cells = [.str (l.getD i.toNat [])] := by
  have ll : i.toNat < l.length := by omega
  rw [List.getD_eq_getElem?_getD, List.getElem?_map, List.getElem?_eq_getElem ll, List.getD_eq_getElem?_getD, List.getElem?_eq_getElem ll]
  rfl
theorem strs_mem {l : List Bs} {i : Int} (q : 0 ≤ i ∧ i < l.length) : l.getD i.toNat [] ∈ l := by
  have ll : i.toNat < l.length := by omega
  rw [List.getD_eq_getElem?_getD, List.getElem?_eq_getElem ll]
  exact List.getElem_mem ll
attribute [go_sem] eq_self

/-! ### What is gathered -/
/-- A slice that is appended to, its token newer than a place. -/
def Acc (S : List Nat) (h0 : EH) (n0 : Nat) (h : EH) (z : Nat) (es : List AV) (r : AV) : Prop := EM S h0 h ∧ h0.n ≤ n0 ∧ n0 ≤ h.n ∧ App h z es r ∧ ∀ t, tok r = some t → n0 ≤ t
section
variable {S : List Nat} {h0 h h1 : EH} {n0 z b : Nat} {es : List AV} {r : AV} {o : AObj}
theorem Acc.full (e : EM S h0 h) (q : h0.n ≤ n0) (q2 : n0 ≤ h.n) : Acc S h0 n0 h z es (.row none true z es) := ⟨e, q, q2, .full _ _ _ _, fun t q => by cases q⟩
theorem Acc.nil (e : EM S h0 h) (q : h0.n ≤ n0) (q2 : n0 ≤ h.n) : Acc S h0 n0 h z [] (.pl (.slice none 0 0)) := ⟨e, q, q2, .nil _ _, fun t q => by cases q⟩
theorem Acc.push (a : Acc S h0 n0 h z es r) : Acc S h0 n0 (h.push o) z es r :=
  ⟨a.1.push, a.2.1, by rw [EH.n_push]; have := a.2.2.1; omega, a.2.2.2.1.ext (.push h o), a.2.2.2.2⟩
theorem Acc.setI (a : Acc S h0 n0 h z es r) (l : b < n0) (m : b ∈ S) : Acc S h0 n0 (h.set b o) z es r :=
  ⟨a.1.setI m, a.2.1, by rw [EH.n_set]; exact a.2.2.1, a.2.2.2.1.keep fun t e => get_set_ne (by have := a.2.2.2.2 t e; omega), a.2.2.2.2⟩
theorem Acc.setN (a : Acc S h0 n0 h z es r) (l : b < n0) (m : h0.n ≤ b) : Acc S h0 n0 (h.set b o) z es r :=
  ⟨a.1.setN m, a.2.1, by rw [EH.n_set]; exact a.2.2.1, a.2.2.2.1.keep fun t e => get_set_ne (by have := a.2.2.2.2 t e; omega), a.2.2.2.2⟩
theorem Acc.setX (a : Acc S h0 n0 h z es r) (l : b < n0) (m : b ∈ S ∨ h0.n ≤ b) : Acc S h0 n0 (h.set b o) z es r := m.elim (a.setI l) (a.setN l)
theorem Acc.slc (a : Acc S h0 n0 h z es r) : Slc z es r := a.2.2.2.1.slc
theorem acc_app {y : AV} {o : Option (Nat × Nat)} {f : Bool} {k : AV → EH → Prop} (a : Acc S h0 n0 h z es r) (room : (es.length + 1) * b ≤ roomMax)
    (hk : ∀ r' h', Acc S h0 n0 h' z (es ++ [y]) r' → (∀ i, i < n0 → h'.get i = h.get i) → h'.n = h.n + 1 → k r' h') : eW (.append z b false (.c r) (.c (.row o f z [y]))) h k :=
  app1 a.2.2.2.1 room fun r' h' a' k' n' f' => by
    obtain ⟨a1, a2, a3, a4, a5⟩ := a
    have kp : ∀ i, i < n0 → h'.get i = h.get i := fun i q => f' i (by omega) (fun e => by have := a5 i e; omega)
    refine hk r' h' ⟨⟨by have := a1.1; omega, fun i q m => by rw [kp i (by omega), a1.2 i q m]⟩, a2, by omega, a', fun t e => ?_⟩ kp n'
    rw [k'] at e; cases e
    exact a3
end
theorem EM.trans' {S T : List Nat} {a b c : EH} (h : EM S a b) (k : EM T b c) (q : ∀ i, i ∈ T → i < a.n → i ∈ S) : EM S a c :=
  ⟨Nat.le_trans h.1 k.1, fun i l z => by rw [k.2 i (Nat.lt_of_lt_of_le l h.1) (fun m => z (q i m l)), h.2 i l z]⟩

/-! ### What a text may be -/
abbrev kOp : Bs := [111, 112]
abbrev kName : Bs := [110, 97, 109, 101]
abbrev kInt : Bs := [105, 110, 116]
abbrev kReal : Bs := [114, 101, 97, 108]
abbrev kText : Bs := [116, 101, 120, 116]
abbrev kLogical : Bs := [108, 111, 103, 105, 99, 97, 108]
abbrev kItem : Bs := [105, 116, 101, 109]
abbrev kList : Bs := [108, 105, 115, 116]
abbrev kTriple : Bs := [116, 114, 105, 112, 108, 101]
abbrev kNone : Bs := [110, 111, 110, 101]
def DigB (c : UInt8) : Prop := 48 ≤ c.toNat ∧ c.toNat ≤ 57
def LowB (c : UInt8) : Prop := 97 ≤ c.toNat ∧ c.toNat ≤ 122
def InB (c : UInt8) : Prop := LowB c ∨ DigB c ∨ c.toNat = 95
def NameT (t : Bs) : Prop := t.length ≤ 12 ∧ (∃ c r, t = c :: r ∧ LowB c) ∧ ∀ c ∈ t, InB c
def IntT (t : Bs) : Prop := 1 ≤ t.length ∧ t.length ≤ 10 ∧ ∀ c ∈ t, DigB c
def PrintT (t : Bs) : Prop := ∀ c ∈ t, 32 ≤ c.toNat ∧ c.toNat ≤ 126
def ExpT (x : Bs) : Prop := ∃ (c : UInt8) (g d : Bs), x = c :: (g ++ d) ∧ (c.toNat = 101 ∨ c.toNat = 100) ∧ (g = [] ∨ g = [43] ∨ g = [45]) ∧ 1 ≤ d.length ∧ d.length ≤ 3 ∧ ∀ c ∈ d, DigB c
def RealT (t : Bs) : Prop := ∃ a b x : Bs, (∀ c ∈ a, DigB c) ∧ (x = [] ∨ ExpT x) ∧ a.length ≤ 60 ∧ (t = a ++ x ∧ x ≠ [] ∧ a ≠ [] ∨ ∃ d : Bs, b = 46 :: d ∧ (∀ c ∈ d, DigB c) ∧ t = a ++ b ++ x ∧ a.length + d.length ≤ 60 ∧ (a ≠ [] ∨ d ≠ []))
def TokOk (t : Tok) : Prop := t.2.length ≤ 10000 ∧ (t.1 = kName → NameT t.2) ∧ (t.1 = kInt → IntT t.2) ∧ (t.1 = kReal → RealT t.2) ∧ (t.1 = kText → PrintT t.2)
def TsOk (ts : List Tok) : Prop := ts.length ≤ 10000 ∧ ∀ t ∈ ts, TokOk t

/-- An operator with so many operands. -/
def OpT (t : Bs) (n : Nat) : Prop :=
  (n = 1 ∧ (t = [43] ∨ t = [45] ∨ t = [46, 110, 111, 116, 46])) ∨
  (n = 2 ∧ (t = [43] ∨ t = [45] ∨ t = [42] ∨ t = [47] ∨ t = [46, 97, 110, 100, 46] ∨ t = [46, 111, 114, 46] ∨ t = [61, 61] ∨ t = [47, 61] ∨ t = [60] ∨ t = [60, 61] ∨ t = [62] ∨ t = [62, 61]))
mutual
/-- An expression that can come of a text, but for its levels. -/
inductive Ok : TE → Prop
  | int (n : Int) (nl : Bool) (h : 0 ≤ n) (h2 : n ≤ 2147483647) : Ok (.mk kInt [] n nl [])
  | logical (n : Int) (nl : Bool) (h : n = 0 ∨ n = 1) : Ok (.mk kLogical [] n nl [])
  | real (t : Bs) (nl : Bool) (h : RealT t) : Ok (.mk kReal t 0 nl [])
  | text (t : Bs) (nl : Bool) (h : PrintT t) : Ok (.mk kText t 0 nl [])
  | name (t : Bs) (nl : Bool) (h : NameT t) : Ok (.mk kName t 0 nl [])
  | item (t : Bs) (nl : Bool) (l : List TE) (h : NameT t) (hl : l.length ≤ 100) (hs : ∀ e, e ∈ l → OkSub e) : Ok (.mk kItem t 0 nl l)
  | list (nl : Bool) (l : List TE) (h : 1 ≤ l.length) (hl : l.length ≤ 100) (hs : ∀ e, e ∈ l → Ok e) : Ok (.mk kList [] 0 nl l)
  | op (t : Bs) (nl : Bool) (l : List TE) (h : OpT t l.length) (hs : ∀ e, e ∈ l → Ok e) : Ok (.mk kOp t 0 nl l)
/-- A subscript. -/
inductive OkSub : TE → Prop
  | one (e : TE) (h : Ok e) : OkSub e
  | triple (nl : Bool) (a b c : TE) (ha : OkN a) (hb : OkN b) (hc : OkN c) : OkSub (.mk kTriple [] 0 nl [a, b, c])
/-- An expression, or a missing one. -/
inductive OkN : TE → Prop
  | none (nl : Bool) : OkN (.mk kNone [] 0 nl [])
  | one (e : TE) (h : Ok e) : OkN e
end
/-- A target. -/
def OkTarget (e : TE) : Prop := Ok e ∧ (e.kind = kName ∨ e.kind = kItem)
theorem Ok.rt {t : Tok} {nl : Bool} (q : t.1 = kReal ∨ t.1 = kText) (o : TokOk t) : Ok (.mk t.1 t.2 0 nl []) := by
  rcases q with q | q
  · rw [q]; exact .real _ _ (o.2.2.2.1 q)
  · rw [q]; exact .text _ _ (o.2.2.2.2 q)
theorem OpT.len {s : Bs} {n : Nat} (q : OpT s n) : s.length ≤ 5 := by
  simp only [OpT] at q
  rcases q with ⟨_, q⟩ | ⟨_, q⟩
  · rcases q with q | q | q <;> simp [q]
  · rcases q with q | q | q | q | q | q | q | q | q | q | q | q <;> simp [q]
theorem OpT.cmp {s : Bs} (q : isCmp s = true) : OpT s 2 := by
  simp only [isCmp, Bool.or_eq_true, beq_iff_eq] at q
  simp only [OpT]
  rcases q with q | q | q | q | q | q <;> simp [q]
theorem getD_mem0 {l : Bs} {i : Nat} (q : i < l.length) : l.getD i 0 ∈ l := by
  rw [List.getD_eq_getElem?_getD, List.getElem?_eq_getElem q]
  exact List.getElem_mem q
attribute [go_sem] wu8
theorem p10 : ∀ i, i ≤ 10 → (10 : Int) ^ i ≤ 10000000000 := by decide

/-! ### What is found without saying how -/
theorem om {p : Prop} (h : p := by first | omega | (simp only [EH.n_push, EH.n_set]; omega) | (simp only [EH.n_push, EH.n_set]; done) | fail) : p := h
theorem mm {α : Type} {x : α} {l : List α} (h : x ∈ l := by first | exact List.mem_cons_self | exact List.mem_cons_of_mem _ List.mem_cons_self | exact List.mem_cons_of_mem _ (List.mem_cons_of_mem _ List.mem_cons_self) | fail) : x ∈ l := h
theorem hp {h : EH} {b : Nat} {o : AObj} (e : h.get b = some o := by repeat first | assumption | exact hn1 | exact hn2 om | exact hs1 om | refine hp1 ?_ | refine hw1 om ?_) : h.get b = some o := e
theorem em {S : List Nat} {h h' : EH} (e : EM S h h' := by repeat first | exact EM.refl _ _ | assumption | refine EM.push ?_ | refine EM.setI ?_ mm | refine EM.setN ?_ om) : EM S h h' := e
theorem ac {S : List Nat} {h0 h : EH} {n0 z : Nat} {es : List AV} {r : AV} (a : Acc S h0 n0 h z es r := by (repeat first | assumption | apply Acc.push | apply Acc.setX); all_goals first | exact om | exact .inl mm | exact .inr om) : Acc S h0 n0 h z es r := a
theorem gl {l : List AV} (e : l.all AV.glob = true := by first | rfl | simp only [go_sem]) : l.all AV.glob = true := e
end Go.Qa
