/- The abstract machine, part 8: its operations and its code; what they ask for; that the model's code does so. -/
import Derived.Test.YtckhcjhpdgadfaaGreatDoorQaConv
import Derived.Test.YtckhcjhpdgadfaaGreatDoorQaArr
import Derived.Deep.LoopGhost
import Derived.OrdersIn
import Derived.TacticsIn
import Derived.RangeFuncCalls
import Derived.RangeFuncWrites
import Derived.RangeFuncLeaves
import Derived.Sort.LoopGhostIn
import Derived.Scope
set_option linter.all false
namespace Go.Qa
open Go Go.RowKit

/-- The model enters a function. -/
def Enters (P : Program) (f : FuncId) : Prop := ∀ (vs : Array Value) (w : World), (callFunc f vs).run P w = .ok (.enter f vs) w
theorem Enters.of {P : Program} {f : FuncId} {fn : Func} (hf : P.funcs[f]? = some fn) (hn : (fn.name == "runtime.NumGoroutine") = false) (hb : fn.body.isNone = false) : Enters P f := by
  intro vs w
  simp only [callFunc, Sem.run_bind, run_program, Result.andThen_ok, hf, hn, hb]
  rfl

/-- A call of a function with abstract arguments returns, and what it gives meets Q. -/
def ACalls (P : Program) (W0 : World) (f : FuncId) (args : List AV) (H : AHeap) (Q : AV → AHeap → Prop) : Prop :=
  Enters P f ∧ ∀ G w vs, HInv W0 H G w → VRels G args vs →
    Calls P f vs.toArray w fun e w' => ∃ v r H' G', e = .returned v ∧ Q r H' ∧ Next G w G' w' ∧ HInv W0 H' G' w' ∧ VRel G' r v
theorem ACalls.mono {P : Program} {W0 : World} {f : FuncId} {args : List AV} {H : AHeap} {Q Q' : AV → AHeap → Prop} (h : ACalls P W0 f args H Q) (hq : ∀ r H', Q r H' → Q' r H') : ACalls P W0 f args H Q' :=
  ⟨h.1, fun G w vs hi hv => (h.2 G w vs hi hv).mono fun e w' ⟨v, r, H', G', e1, q, e2⟩ => ⟨v, r, H', G', e1, hq _ _ q, e2⟩⟩

/-- No fence but for the round. -/
def RF (ro : Option Nat) : Fence := { Fence.wide with round := ro }
/-- A call of a round of a loop over a function. -/
def AYields (P : Program) (W0 : World) (b : Nat) (args : List AV) (H : AHeap) (Q : AV → AHeap → Prop) : Prop :=
  ∀ G w l vs n, HInv W0 H G w → G.bx b = some l → VRels G args vs →
    YieldAt (RF none) n P l vs.toArray w fun e w' => ∃ v r H' G', e = .returned v ∧ Q r H' ∧ Next G w G' w' ∧ HInv W0 H' G' w' ∧ VRel G' r v
theorem AYields.mono {P : Program} {W0 : World} {b : Nat} {args : List AV} {H : AHeap} {Q Q' : AV → AHeap → Prop} (h : AYields P W0 b args H Q) (hq : ∀ r H', Q r H' → Q' r H') : AYields P W0 b args H Q' :=
  fun G w l vs n hi hb hv => by
    obtain ⟨fn, tmps, asg, body, h1, h2⟩ := h G w l vs n hi hb hv
    exact ⟨fn, tmps, asg, body, h1, h2.mono fun e w' ⟨v, r, H', G', e1, q, e2⟩ => ⟨v, r, H', G', e1, hq _ _ q, e2⟩⟩

inductive XExp where
  | eqs (k : EK) (neg : Bool) (x y : Opd)
  | lookup (k : KK) (zero : AV) (x i : Opd) (ok : Bool)
  | aaddr (len esz : Nat) (x i : Opd)
  | fld (o : Nat) (n : Option Nat) (x : Opd)
  | lenM (x : Opd)
  | entry (x : Opd)
  | b2s (x : Opd)
  | ssame (x : Opd)
  | mkif (t : TypeId) (x : Opd)
  | imin (x y : Opd)
  | imax (x y : Opd)
  deriving Inhabited
def XExp.ev (e : XExp) (st : AS) (H : AHeap) : Option AV :=
  match e with
  | .eqs k neg x y => (k.eq (st.ev x) (st.ev y)).map fun b => .bool (if neg then !b else b)
  | .lookup k zero x i ok => match mapOf H (st.ev x) with
    | some es => if keyOk k (st.ev i) then lookupAV k zero es (st.ev i) ok else none
    | none => none
  | .aaddr len esz x i => aaddrAV len esz (st.ev x) (st.ev i)
  | .fld o n x => fldAV o n (st.ev x)
  | .lenM x => (mapOf H (st.ev x)).map fun es => .int .i64 es.length
  | .entry x => entryAV H (st.ev x)
  | .b2s x => b2sAV H (st.ev x)
  | .ssame x => match st.ev x with
    | .str s => some (.str s)
    | _ => none
  | .mkif t x => if (st.ev x).glob then some (.iface t (st.ev x)) else none
  | .imin x y => match st.ev x, st.ev y with
    | .int k a, .int k' b => if k = k' then some (.int k (if b < a then b else a)) else none
    | _, _ => none
  | .imax x y => match st.ev x, st.ev y with
    | .int k a, .int k' b => if k = k' then some (.int k (if a < b then b else a)) else none
    | _, _ => none
inductive EOp where
  | alloc (heap : Bool) (zero : List AV)
  | box (heap : Bool) (x : Opd)
  | store (n : Nat) (x v : Opd)
  | call (f : Opd) (args : List Opd)
  | bslice (esz : Nat) (xs : List Opd)
  | append (esz bytes : Nat) (str : Bool) (x y : Opd)
  | appendA (esz bytes : Nat) (str : Bool) (x y : Opd)
  | mksl (esz bytes : Nat) (zero : List AV) (len cap : Opd)
  | mkmap
  | mupd (k : KK) (m key val : Opd)
  | range (x : Opd)
  | next (x : Opd)
  | s2b (arr : Bool) (x : Opd)
  | no
  deriving Inhabited
inductive AOp where
  | pu (e : PExp)
  | px (e : XExp)
  | ef (x : EOp)
  deriving Inhabited
structure AOper where
  dst : Option Nat
  guard : Option (Nat × Bool)
  op : AOp
  deriving Inhabited

/-- A new variable, on the heap or of the function's own. -/
def newVarAt (heap : Bool) (cs : List AV) (d : Option Nat) (K : AS → AHeap → Prop) (st : AS) (H : AHeap) : Prop :=
  if heap then K (st.set d (.ref H.length 0)) (H ++ [.cells cs])
  else match d with
    | some t => K (st.newLoc t cs) H
    | none => False
def storeAV (n : Nat) (x : AV) (ns : List AV) (d : Option Nat) (K : AS → AHeap → Prop) (st : AS) (H : AHeap) : Prop :=
  ns.length = n ∧ match x with
    | .ref b o => match H[b]? with
      | some (.cells cs) => o + n ≤ cs.length ∧ K (st.set d (.pl undef)) (H.set b (.cells (over cs o ns)))
      | _ => False
    | .lref t o => match st.loc t with
      | some cs => o + n ≤ cs.length ∧ K ((st.setLoc t (over cs o ns)).set d (.pl undef)) H
      | none => False
    | _ => False
def callAV (P : Program) (W0 : World) (f : AV) (args : List AV) (d : Option Nat) (K : AS → AHeap → Prop) (st : AS) (H : AHeap) : Prop :=
  match f with
  | .fn (.func g) first captured => (first ++ args ++ captured).all AV.glob = true ∧ ACalls P W0 g (first ++ args ++ captured) H fun r H' => K (st.set d r) H'
  | .yfn b => args.all AV.glob = true ∧ AYields P W0 b args H fun r H' => K (st.set d r) H'
  | _ => False
def AV.isStr : AV → Bool
  | .str _ => true
  | _ => false
def EOp.wp (P : Program) (W0 : World) (op : EOp) (d : Option Nat) (K : AS → AHeap → Prop) (st : AS) (H : AHeap) : Prop :=
  match op with
  | .alloc heap zero => newVarAt heap zero d K st H
  | .box heap x => match (st.ev x).cells? with
    | some cs => newVarAt heap cs d K st H
    | none => False
  | .store n x v => match (st.ev v).cells? with
    | some ns => storeAV n (st.ev x) ns d K st H
    | none => False
  | .call f args => callAV P W0 (st.ev f) (args.map st.ev) d K st H
  | .bslice esz xs => (xs.map st.ev).all (AV.isSize esz) = true ∧ K (st.set d (.row none true esz (xs.map st.ev))) H
  | .append esz bytes str x y => (st.ev y).isStr = str ∧ match st.src H esz (st.ev y) with
    | some ys => appendAV esz bytes (st.ev x) ys d K st H
    | none => False
  | .appendA esz bytes str x y => (st.ev y).isStr = str ∧ match st.src H esz (st.ev y) with
    | some ys => appendArr esz bytes (st.ev x) ys d K st H
    | none => False
  | .mksl esz bytes zero len cap => mkslAV esz bytes zero (st.ev len) (st.ev cap) d K st H
  | .mkmap => K (st.set d (.map H.length)) (H ++ [.map [] 0])
  | .mupd k m key val => match st.ev m with
    | .map i => mupdAV k i (st.ev key) (st.ev val) d K st H
    | _ => False
  | .range x => rangeAV (st.ev x) d K st H
  | .next x => nextAV (st.ev x) d K st H
  | .s2b arr x => s2bAV arr (st.ev x) d K st H
  | .no => False
def AOp.wp (P : Program) (W0 : World) (op : AOp) (d : Option Nat) (K : AS → AHeap → Prop) (st : AS) (H : AHeap) : Prop :=
  match op with
  | .pu x => match x.ev st H with
    | some r => K (st.set d r) H
    | none => False
  | .px x => match x.ev st H with
    | some r => K (st.set d r) H
    | none => False
  | .ef x => x.wp P W0 d K st H
def AOper.wp (P : Program) (W0 : World) (o : AOper) (K : AS → AHeap → Prop) (st : AS) (H : AHeap) : Prop :=
  match o.guard with
  | none => o.op.wp P W0 o.dst K st H
  | some (t, want) => match st.s t with
    | .bool b => if b = want then o.op.wp P W0 o.dst K st H else K (st.set o.dst (.pl undef)) H
    | .pl (.tuple _) => K (st.set o.dst (.pl undef)) H
    | _ => False
def awpOps (P : Program) (W0 : World) : List AOper → (AS → AHeap → Prop) → AS → AHeap → Prop
  | [], K, st, H => K st H
  | o :: r, K, st, H => o.wp P W0 (awpOps P W0 r K) st H

section
variable {W0 : World} {G0 : Ghost} {w0 : World} {N : Nat} {G G' : Ghost} {L : Nat → Option Nat} {st : AS} {H H' : AHeap} {ca : Act} {w w' : World} {P : Program}
theorem Post.of {K : AS → AHeap → Prop} (h : Rel W0 G0 w0 N G L st H ca w) (k : K st H) : Post W0 G0 w0 N K ca w := ⟨st, H, k, G, L, h⟩

variable {o : Oper} {K : AS → AHeap → Prop} {Q : Exit → Act → World → Prop}
theorem wp_value {v : Value} (hr : (execOp ca.eval o).run P w = .ok (.value v) w') (k : Post W0 G0 w0 N K (ca.put o.dst v) w') : o.wp P ca w (Post W0 G0 w0 N K) Q := by
  unfold Oper.wp; rw [hr]; exact k
theorem wp_skip' (hr : (execOp ca.eval o).run P w = .ok .skip w') (k : Post W0 G0 w0 N K (ca.put o.dst undef) w') : o.wp P ca w (Post W0 G0 w0 N K) Q := by
  unfold Oper.wp; rw [hr]; exact k
theorem wp_gives (h : Rel W0 G0 w0 N G L st H ca w) {s : Sem Value} {r : AV} (hg : Gives P G L st w s r) (he : execOp ca.eval o = (do pure (.value (← s)))) (k : K (st.set o.dst r) H) : o.wp P ca w (Post W0 G0 w0 N K) Q := by
  obtain ⟨v, hv, hr, hl⟩ := hg
  exact wp_value (by rw [he]; simp [hv]) (.of (h.set o.dst hr hl) k)

/-- A new variable. -/
theorem newVar_sound (h : Rel W0 G0 w0 N G L st H ca w) {heap : Bool} {cs : List AV} {vs : List Value} {ty : TypeId} (hv : VRels G cs vs) (h1 : ∀ c ∈ cs, c.one = true) (hd : ∀ t, o.dst = some t → t < N)
    (hr : (execOp ca.eval o).run P w = .ok (.value (.pointer (some ⟨w.heap.size, 0, none⟩))) (w.alloc (.cells vs.toArray ty))) (k : newVarAt heap cs o.dst K st H) : o.wp P ca w (Post W0 G0 w0 N K) Q := by
  refine wp_value hr ?_
  cases heap with
  | true =>
    simp only [newVarAt, if_true] at k
    obtain ⟨G', hn, hi, hb, _⟩ := h.inv.newBox cs vs ty hv h1
    exact .of ((h.step hn hi).set o.dst (.of (.ref _ _ _ hb)) (by simp)) k
  | false =>
    simp only [newVarAt, Bool.false_eq_true, if_false] at k
    cases ho : o.dst with
    | none => rw [ho] at k; exact k.elim
    | some t =>
      rw [ho] at k
      exact .of (h.newLoc t (hd t ho) cs vs ty hv h1) k

theorem run_storeAt' (w : World) (B o : Nat) (t : TypeId) (v : Value) (i : TypeInfo) (hi : P.info? t = some i) (hs : v.cells.toList.length = i.size) (ht : w.there B o v.cells.toList.length) (h1 : ∀ c ∈ v.cells.toList, c.oneCell' = true) :
    (Instr.storeAt t (.pointer (some ⟨B, o, none⟩)) v).run P w = .ok () (w.setCells B o v.cells.toList) := by
  have key := run_storeCells_cells (P := P) B o v.cells.toList 0 w (fun j hj => by simpa using (ht j hj).1) (fun j hj => by simpa using (ht j hj).2) h1
  have hs' : v.cells.size = i.size := by simpa using hs
  simp only [Nat.add_zero] at key
  simp [Instr.storeAt, Instr.sureAddr, storeVar, sizeOf, typeInfo, hi, hs', key]

theorem VRels.ones {cs : List AV} {vs : List Value} (h : VRels G cs vs) (h1 : ∀ c ∈ cs, c.one = true) : ∀ v ∈ vs, v.oneCell' = true := by
  intro v hv
  obtain ⟨j, hj, rfl⟩ := List.getElem_of_mem hv
  have hjc : j < cs.length := by rw [← h.1]; exact hj
  have := h.2 j hjc
  rw [List.getD_eq_getElem?_getD, List.getElem?_eq_getElem hjc, List.getD_eq_getElem?_getD, List.getElem?_eq_getElem hj] at this
  exact VRel.one this (h1 _ (List.getElem_mem _))

theorem store_sound (h : Rel W0 G0 w0 N G L st H ca w) {t : TypeId} {i : TypeInfo} (hi : P.info? t = some i) {x v : Operand} {x' v' : Opd} (hx : cOpd N x = some x') (hv : cOpd N v = some v')
    (ho : o.op = .store t x v) {ns : List AV} (hc : (st.ev v').cells? = some ns) (k : storeAV i.size (st.ev x') ns o.dst K st H) : o.wp P ca w (Post W0 G0 w0 N K) Q := by
  have h1 := h.opd hx
  have h2 := h.opd hv
  have h2' : VRel G (st.ev v') (ca.eval v) := h2.rel (fun t off e => by rw [e] at hc; simp [AV.cells?, AV.one] at hc)
  obtain ⟨hcr, hones⟩ := h2'.cells hc
  have hvl : (ca.eval v).cells.toList.length = ns.length := hcr.1
  obtain ⟨hn, k⟩ := k
  have ex : execOp ca.eval o = (do Instr.storeAt t (ca.eval x) (ca.eval v); pure .skip) := by simp only [execOp, ho]
  generalize hax : st.ev x' = a at *
  cases a <;> simp only at k <;> try exact k.elim
  · rename_i b off
    split at k
    · rename_i cs hb
      obtain ⟨hle, k⟩ := k
      have := h1.rel (by simp)
      generalize hvx : ca.eval x = vx at *
      cases this with
      | ref _ _ B hB =>
        obtain ⟨B', vs, ty, fz, hB', hh, hs, hfz, hl, hcv⟩ := h.inv.obj b _ hb
        rw [hB] at hB'; cases hB'
        have there : w.there B off (ca.eval v).cells.toList.length := fun j hj => by
          have : off + j < vs.size := by omega
          have hz := hfz _ this
          simp only [World.cell?, World.frozen?, hh]
          simp [this]
          simpa using hz
        have run := run_storeAt' (P := P) w B off t (ca.eval v) i hi (by omega) there (hcr.ones hones)
        refine wp_skip' (w' := w.setCells B off (ca.eval v).cells.toList) (by rw [ex]; simp [run]) ?_
        have hi' := h.inv.store b B off cs ns _ hb hB (by omega) hcr hones
        have hn' : Next G w G (w.setCells B off (ca.eval v).cells.toList) := (Next.refl G w).setCells B vs.size off _ hs
        exact .of ((h.step hn' hi').set o.dst (.of (.pl _)) (by simp)) k
    · exact k.elim
  · rename_i l off
    split at k
    · rename_i cs hb
      obtain ⟨hle, k⟩ := k
      rcases h1 with ⟨l', off', B, e, hB, hvx⟩ | h1
      · cases e
        obtain ⟨B', vs, ty, p1, p2, p3, hh, hr, p6⟩ := h.locs l cs hb
        rw [hB] at p1; cases p1
        have there : w.there B off (ca.eval v).cells.toList.length := fun j hj => by
          have : off + j < vs.length := by rw [hr.1]; omega
          simp only [World.cell?, World.frozen?, hh]
          simp [this]
        have run := run_storeAt' (P := P) w B off t (ca.eval v) i hi (by omega) there (hcr.ones hones)
        refine wp_skip' (w' := w.setCells B off (ca.eval v).cells.toList) (by rw [ex, hvx]; simp [run]) ?_
        exact .of ((h.setLoc l off B cs ns _ hb hB (by omega) hcr hones).set o.dst (.of (.pl _)) (by simp)) k
      · cases h1
    · exact k.elim

theorem call_sound (h : Rel W0 G0 w0 N G L st H ca w) {f : Operand} {f' : Opd} (hf : cOpd N f = some f') {xs : List Operand} {ys : List Opd} (hx : xs.mapM (cOpd N) = some ys) {tys : Array TypeId}
    (ho : o.op = .call { callee := .value f, args := xs.toArray, argTypes := tys }) (hny : ∀ b, st.ev f' ≠ .yfn b) (k : callAV P W0 (st.ev f') (ys.map st.ev) o.dst K st H) : o.wp P ca w (Post W0 G0 w0 N K) Q := by
  have h1 := h.opd hf
  generalize hv : ca.eval f = vf at *
  generalize st.ev f' = a at *
  cases a <;> simp only [callAV] at k <;> try exact k.elim
  rotate_left
  · rename_i b; exact (hny b rfl).elim
  rename_i fn first captured
  cases fn <;> simp only at k <;> try exact k.elim
  rename_i g
  obtain ⟨hg, he, k⟩ := k
  rw [List.all_append, List.all_append, Bool.and_eq_true, Bool.and_eq_true] at hg
  have hr := opds_rel h hx hg.1.2
  have := h1.rel (by simp)
  cases this with
  | fn _ _ _ vfs vcs hlf hlc hf hc =>
    have hargs : VRels G (first ++ ys.map st.ev ++ captured) (vfs ++ xs.map ca.eval ++ vcs) := VRels.append (VRels.append ⟨hlf, hf⟩ hr) ⟨hlc, hc⟩
    have run : (execOp ca.eval o).run P w = .ok (.enter g (vfs ++ xs.map ca.eval ++ vcs).toArray) w := by
      have := he (vfs ++ xs.map ca.eval ++ vcs).toArray w
      simp only [execOp, ho, resolve, hv, Deferred.ofValue, Sem.run_bind, Sem.run_pure, Result.andThen_ok, invoke]
      rw [← this]
      congr 2
      simp
    unfold Oper.wp
    rw [run, Oper.upon_enter]
    refine (k G w _ h.inv hargs).mono fun e w' ⟨v, r, H', G', e1, q, hn, hi, hv⟩ => ?_
    subst e1
    exact .of ((h.step hn hi).set o.dst (.of hv) (fun i off e => by subst e; cases hv)) q

/-! ### Inside a round -/
section
variable {n : Nat} {ro : Option Nat} {a : Act} {K' : Act → World → Prop} {ops : Array Oper}
theorem calls_rf {f : FuncId} {args : Array Value} {R : Ending → World → Prop} (h : Calls P f args w R) : CallsIn (RF ro) n P f args w R := by
  have h' : CallsIn Fence.wide n P f args w R := callsIn_wide.2 h
  cases ro with
  | none => exact h'
  | some l => exact CallsIn.inRound l h'
theorem rows_rf {row : String} {args : Array Value} {R : Value → World → Prop} (h : Rows P row args w R) : RowsIn (RF ro) n P row args w R :=
  fun c cs _ => let ⟨v, w', r, s⟩ := h c cs; ⟨v, w', r, stepsIn_wide.2 s⟩
theorem oper_rf (hnd : ∀ c, o.op ≠ .defer c) (h : o.wp P a w K' Q) : o.wpIn (RF ro) n P a w K' Q := by
  unfold Oper.wp at h
  refine ⟨fun f _ => trivial, ?_⟩
  rw [Oper.semAt_eq _ _ _ hnd]
  generalize (execOp a.eval o).run P w = r at *
  cases r with
  | ok x w' =>
    cases x <;> simp only [Oper.upon, Oper.uponIn] at h ⊢ <;> first
      | exact h
      | exact h.elim
      | exact ⟨fun q => (by cases q), calls_rf h⟩
      | exact ⟨fun q => (by cases q), rows_rf h⟩
  | halt x w' => cases x <;> simp only [Oper.upon, Oper.uponIn] at h ⊢ <;> first | exact h | exact h.elim

/-- A round is called. -/
theorem yield_sound (h : Rel W0 G0 w0 N G L st H ca w) {f : Operand} {f' : Opd} (hf : cOpd N f = some f') {xs : List Operand} {ys : List Opd} (hx : xs.mapM (cOpd N) = some ys) {tys : Array TypeId}
    (ho : o.op = .call { callee := .value f, args := xs.toArray, argTypes := tys }) {b : Nat} (hb : st.ev f' = .yfn b) (k : callAV P W0 (st.ev f') (ys.map st.ev) o.dst K st H) : o.wpIn (RF ro) n P ca w (Post W0 G0 w0 N K) Q := by
  have h1 := h.opd hf
  rw [hb] at h1 k
  have h2 := h1.rel (by simp)
  generalize hv : ca.eval f = vf at *
  cases h2 with
  | yfn _ B hB =>
    obtain ⟨hg, k⟩ := k
    have hr := opds_rel h hx hg
    obtain ⟨fn, tmps, asg, body, hy, hR⟩ := k G w B _ (n - 1) h.inv hB hr
    have run : (execOp ca.eval o).run P w = .ok (.round B fn tmps asg body) w := by
      simp only [execOp, ho, resolve, hv, Deferred.ofValue, Sem.run_bind, Sem.run_pure, Result.andThen_ok, invoke]
      rw [← hy]
      congr 2
      simp
    refine ⟨fun _ _ => trivial, ?_⟩
    rw [Oper.semAt_eq _ _ _ (by intro c e; rw [ho] at e; cases e), run, Oper.uponIn_round]
    refine ⟨fun q => (by cases q), ?_⟩
    have hR' : RoundIn (RF ro) (n - 1) P B fn tmps asg body w _ := hR
    refine hR'.mono fun e w' ⟨v, r, H', G', e1, q, hn, hi, hv⟩ => ?_
    subst e1
    exact .of ((h.step hn hi).set o.dst (.of hv) (fun i off e => by subst e; cases hv)) q
end
end
end Go.Qa
