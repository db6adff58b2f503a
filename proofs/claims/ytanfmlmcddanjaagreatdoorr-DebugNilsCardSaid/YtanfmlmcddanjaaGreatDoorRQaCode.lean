/- The abstract machine, part 8: its operations and its code; what they ask for; that the model's code does so. -/
import Derived.Lib.SliceRun
import Derived.Test.YtanfmlmcddanjaaGreatDoorRQaConv
import Derived.Test.YtanfmlmcddanjaaGreatDoorRQaArr
import Derived.Deep.LoopGhost
import Derived.OrdersIn
import Derived.TacticsIn
import Derived.RangeFuncCalls
import Derived.RangeFuncWrites
import Derived.RangeFuncLeaves
import Derived.Sort.LoopGhostIn
import Derived.Scope
set_option linter.all false
namespace Go.Qa
open Go Go.RowKit

/-- The model enters a function. -/
def Enters (P : Program) (f : FuncId) : Prop := ∀ (vs : Array Value) (w : World), (callFunc f vs).run P w = .ok (.enter f vs) w
theorem Enters.of {P : Program} {f : FuncId} {fn : Func} (hf : P.funcs[f]? = some fn) (hn : (fn.name == "runtime.NumGoroutine") = false) (hb : fn.body.isNone = false) : Enters P f := by
  intro vs w
  simp only [callFunc, Sem.run_bind, run_program, Result.andThen_ok, hf, hn, hb]
  rfl

/-- A call of a function with abstract arguments returns, and what it gives meets Q. -/
def ACalls (P : Program) (W0 : World) (f : FuncId) (args : List AV) (H : AHeap) (Q : AV → AHeap → Prop) : Prop :=
  Enters P f ∧ ∀ G w vs, HInv W0 H G w → VRels G args vs →
    Calls P f vs.toArray w fun e w' => ∃ v r H' G', e = .returned v ∧ Q r H' ∧ Next G w G' w' ∧ HInv W0 H' G' w' ∧ VRel G' r v
theorem ACalls.mono {P : Program} {W0 : World} {f : FuncId} {args : List AV} {H : AHeap} {Q Q' : AV → AHeap → Prop} (h : ACalls P W0 f args H Q) (hq : ∀ r H', Q r H' → Q' r H') : ACalls P W0 f args H Q' :=
  ⟨h.1, fun G w vs hi hv => (h.2 G w vs hi hv).mono fun e w' ⟨v, r, H', G', e1, q, e2⟩ => ⟨v, r, H', G', e1, hq _ _ q, e2⟩⟩

/-- No fence but for the round. -/
def RF (ro : Option Nat) : Fence := { Fence.wide with round := ro }
/-- A call of a round of a loop over a function. -/
def AYields (P : Program) (W0 : World) (b : Nat) (args : List AV) (H : AHeap) (Q : AV → AHeap → Prop) : Prop :=
  ∀ G w l vs n, HInv W0 H G w → G.bx b = some l → VRels G args vs →
    YieldAt (RF none) n P l vs.toArray w fun e w' => ∃ v r H' G', e = .returned v ∧ Q r H' ∧ Next G w G' w' ∧ HInv W0 H' G' w' ∧ VRel G' r v
theorem AYields.mono {P : Program} {W0 : World} {b : Nat} {args : List AV} {H : AHeap} {Q Q' : AV → AHeap → Prop} (h : AYields P W0 b args H Q) (hq : ∀ r H', Q r H' → Q' r H') : AYields P W0 b args H Q' :=
  fun G w l vs n hi hb hv => by
    obtain ⟨fn, tmps, asg, body, h1, h2⟩ := h G w l vs n hi hb hv
    exact ⟨fn, tmps, asg, body, h1, h2.mono fun e w' ⟨v, r, H', G', e1, q, e2⟩ => ⟨v, r, H', G', e1, hq _ _ q, e2⟩⟩

/-- The slice of a whole array. -/
def sarrAV (n esz : Nat) (H : AHeap) (x : AV) : Option AV :=
  match x with
  | .ref b 0 => match H[b]? with
    | some (.cells cs) => if n ≤ maxLen ∧ n * esz ≤ cs.length then some (.arr b 0 n esz) else none
    | _ => none
  | _ => none
inductive XExp where
  | eqs (k : EK) (neg : Bool) (x y : Opd)
  | lookup (k : KK) (zero : AV) (x i : Opd) (ok : Bool)
  | aaddr (len esz : Nat) (x i : Opd)
  | sarr (n esz : Nat) (x : Opd)
  | fld (o : Nat) (n : Option Nat) (x : Opd)
  | lenM (x : Opd)
  | entry (x : Opd)
  | b2s (x : Opd)
  | ssame (x : Opd)
  | mkif (t : TypeId) (x : Opd)
  | imin (x y : Opd)
  | imax (x y : Opd)
  deriving Inhabited
def XExp.ev (e : XExp) (st : AS) (H : AHeap) : Option AV :=
  match e with
  | .eqs k neg x y => (k.eq (st.ev x) (st.ev y)).map fun b => .bool (if neg then !b else b)
  | .lookup k zero x i ok => match mapOf H (st.ev x) with
    | some es => if keyOk k (st.ev i) then lookupAV k zero es (st.ev i) ok else none
    | none => none
  | .aaddr len esz x i => aaddrAV len esz (st.ev x) (st.ev i)
  | .sarr n esz x => sarrAV n esz H (st.ev x)
  | .fld o n x => fldAV o n (st.ev x)
  | .lenM x => (mapOf H (st.ev x)).map fun es => .int .i64 es.length
  | .entry x => entryAV H (st.ev x)
  | .b2s x => b2sAV H (st.ev x)
  | .ssame x => match st.ev x with
    | .str s => some (.str s)
    | _ => none
  | .mkif t x => if (st.ev x).glob then some (.iface t (st.ev x)) else none
  | .imin x y => match st.ev x, st.ev y with
    | .int k a, .int k' b => if k = k' then some (.int k (if b < a then b else a)) else none
    | _, _ => none
  | .imax x y => match st.ev x, st.ev y with
    | .int k a, .int k' b => if k = k' then some (.int k (if a < b then b else a)) else none
    | _, _ => none
inductive EOp where
  | alloc (heap : Bool) (zero : List AV)
  | box (heap : Bool) (x : Opd)
  | store (n : Nat) (x v : Opd)
  | call (f : Opd) (args : List Opd)
  | bslice (esz : Nat) (xs : List Opd)
  | append (esz bytes : Nat) (str : Bool) (x y : Opd)
  | appendA (esz bytes : Nat) (str : Bool) (x y : Opd)
  | mksl (esz bytes : Nat) (zero : List AV) (len cap : Opd)
  | mkmap
  | copy (esz : Nat) (x y : Opd)
  | clr (za : AV) (x : Opd)
  | mupd (k : KK) (m key val : Opd)
  | range (x : Opd)
  | next (x : Opd)
  | s2b (arr : Bool) (x : Opd)
  | no
  deriving Inhabited
inductive AOp where
  | pu (e : PExp)
  | px (e : XExp)
  | ef (x : EOp)
  deriving Inhabited
structure AOper where
  dst : Option Nat
  guard : Option (Nat × Bool)
  op : AOp
  deriving Inhabited

/-- A new variable, on the heap or of the function's own. -/
def newVarAt (heap : Bool) (cs : List AV) (d : Option Nat) (K : AS → AHeap → Prop) (st : AS) (H : AHeap) : Prop :=
  if heap then K (st.set d (.ref H.length 0)) (H ++ [.cells cs])
  else match d with
    | some t => K (st.newLoc t cs) H
    | none => False
def storeAV (n : Nat) (x : AV) (ns : List AV) (d : Option Nat) (K : AS → AHeap → Prop) (st : AS) (H : AHeap) : Prop :=
  ns.length = n ∧ match x with
    | .ref b o => match H[b]? with
      | some (.cells cs) => o + n ≤ cs.length ∧ K (st.set d (.pl undef)) (H.set b (.cells (over cs o ns)))
      | _ => False
    | .lref t o => match st.loc t with
      | some cs => o + n ≤ cs.length ∧ K ((st.setLoc t (over cs o ns)).set d (.pl undef)) H
      | none => False
    | _ => False
/-- The elements are zeroed, each one cell. -/
def clrAV (za : AV) (x : AV) (d : Option Nat) (K : AS → AHeap → Prop) (st : AS) (H : AHeap) : Prop :=
  match x with
  | .arr b start len sz => sz = 1 ∧ 0 < len ∧ match H[b]? with
    | some (.cells cs) => start + len ≤ cs.length ∧ K (st.set d (.pl undef)) (H.set b (.cells (over cs start (List.replicate len za))))
    | _ => False
  | .row _ _ _ [] => K (st.set d (.pl undef)) H
  | _ => False
/-- What is copied goes into a box; the source is no longer than the target. -/
def copyAV (esz : Nat) (x : AV) (ys : List AV) (d : Option Nat) (K : AS → AHeap → Prop) (st : AS) (H : AHeap) : Prop :=
  match x with
  | .arr b start len sz => sz = esz ∧ ys.length ≤ len ∧ match H[b]? with
    | some (.cells cs) => start * esz + (flat ys).length ≤ cs.length ∧ K (st.set d (.int .i64 ys.length)) (H.set b (.cells (over cs (start * esz) (flat ys))))
    | _ => False
  | .pl (.slice none 0 0) => ys = [] ∧ K (st.set d (.int .i64 0)) H
  | _ => False
def callAV (P : Program) (W0 : World) (f : AV) (args : List AV) (d : Option Nat) (K : AS → AHeap → Prop) (st : AS) (H : AHeap) : Prop :=
  match f with
  | .fn (.func g) first captured => (first ++ args ++ captured).all AV.glob = true ∧ ACalls P W0 g (first ++ args ++ captured) H fun r H' => K (st.set d r) H'
  | .yfn b => args.all AV.glob = true ∧ AYields P W0 b args H fun r H' => K (st.set d r) H'
  | _ => False
def AV.isStr : AV → Bool
  | .str _ => true
  | _ => false
def EOp.wp (P : Program) (W0 : World) (op : EOp) (d : Option Nat) (K : AS → AHeap → Prop) (st : AS) (H : AHeap) : Prop :=
  match op with
  | .alloc heap zero => newVarAt heap zero d K st H
  | .box heap x => match (st.ev x).cells? with
    | some cs => newVarAt heap cs d K st H
    | none => False
  | .store n x v => match (st.ev v).cells? with
    | some ns => storeAV n (st.ev x) ns d K st H
    | none => False
  | .call f args => callAV P W0 (st.ev f) (args.map st.ev) d K st H
  | .bslice esz xs => (xs.map st.ev).all (AV.isSize esz) = true ∧ K (st.set d (.row none true esz (xs.map st.ev))) H
  | .append esz bytes str x y => (st.ev y).isStr = str ∧ match st.src H esz (st.ev y) with
    | some ys => appendAV esz bytes (st.ev x) ys d K st H
    | none => False
  | .appendA esz bytes str x y => (st.ev y).isStr = str ∧ match st.src H esz (st.ev y) with
    | some ys => appendArr esz bytes (st.ev x) ys d K st H
    | none => False
  | .mksl esz bytes zero len cap => mkslAV esz bytes zero (st.ev len) (st.ev cap) d K st H
  | .mkmap => K (st.set d (.map H.length)) (H ++ [.map [] 0])
  | .copy esz x y => (st.ev y).isStr = false ∧ match st.src H esz (st.ev y) with
    | some ys => copyAV esz (st.ev x) ys d K st H
    | none => False
  | .clr za x => clrAV za (st.ev x) d K st H
  | .mupd k m key val => match st.ev m with
    | .map i => mupdAV k i (st.ev key) (st.ev val) d K st H
    | _ => False
  | .range x => rangeAV (st.ev x) d K st H
  | .next x => nextAV (st.ev x) d K st H
  | .s2b arr x => s2bAV arr (st.ev x) d K st H
  | .no => False
def AOp.wp (P : Program) (W0 : World) (op : AOp) (d : Option Nat) (K : AS → AHeap → Prop) (st : AS) (H : AHeap) : Prop :=
  match op with
  | .pu x => match x.ev st H with
    | some r => K (st.set d r) H
    | none => False
  | .px x => match x.ev st H with
    | some r => K (st.set d r) H
    | none => False
  | .ef x => x.wp P W0 d K st H
def AOper.wp (P : Program) (W0 : World) (o : AOper) (K : AS → AHeap → Prop) (st : AS) (H : AHeap) : Prop :=
  match o.guard with
  | none => o.op.wp P W0 o.dst K st H
  | some (t, want) => match st.s t with
    | .bool b => if b = want then o.op.wp P W0 o.dst K st H else K (st.set o.dst (.pl undef)) H
    | .pl (.tuple _) => K (st.set o.dst (.pl undef)) H
    | _ => False
def awpOps (P : Program) (W0 : World) : List AOper → (AS → AHeap → Prop) → AS → AHeap → Prop
  | [], K, st, H => K st H
  | o :: r, K, st, H => o.wp P W0 (awpOps P W0 r K) st H

section
variable {W0 : World} {G0 : Ghost} {w0 : World} {N : Nat} {G G' : Ghost} {L : Nat → Option Nat} {st : AS} {H H' : AHeap} {ca : Act} {w w' : World} {P : Program}
theorem Post.of {K : AS → AHeap → Prop} (h : Rel W0 G0 w0 N G L st H ca w) (k : K st H) : Post W0 G0 w0 N K ca w := ⟨st, H, k, G, L, h⟩

variable {o : Oper} {K : AS → AHeap → Prop} {Q : Exit → Act → World → Prop}
theorem wp_value {v : Value} (hr : (execOp ca.eval o).run P w = .ok (.value v) w') (k : Post W0 G0 w0 N K (ca.put o.dst v) w') : o.wp P ca w (Post W0 G0 w0 N K) Q := by
  unfold Oper.wp; rw [hr]; exact k
theorem wp_skip' (hr : (execOp ca.eval o).run P w = .ok .skip w') (k : Post W0 G0 w0 N K (ca.put o.dst undef) w') : o.wp P ca w (Post W0 G0 w0 N K) Q := by
  unfold Oper.wp; rw [hr]; exact k
theorem wp_gives (h : Rel W0 G0 w0 N G L st H ca w) {s : Sem Value} {r : AV} (hg : Gives P G L st w s r) (he : execOp ca.eval o = (do pure (.value (← s)))) (k : K (st.set o.dst r) H) : o.wp P ca w (Post W0 G0 w0 N K) Q := by
  obtain ⟨v, hv, hr, hl⟩ := hg
  exact wp_value (by rw [he]; simp [hv]) (.of (h.set o.dst hr hl) k)

/-- A new variable. -/
theorem newVar_sound (h : Rel W0 G0 w0 N G L st H ca w) {heap : Bool} {cs : List AV} {vs : List Value} {ty : TypeId} (hv : VRels G cs vs) (h1 : ∀ c ∈ cs, c.one = true) (hd : ∀ t, o.dst = some t → t < N)
    (hr : (execOp ca.eval o).run P w = .ok (.value (.pointer (some ⟨w.heap.size, 0, none⟩))) (w.alloc (.cells vs.toArray ty))) (k : newVarAt heap cs o.dst K st H) : o.wp P ca w (Post W0 G0 w0 N K) Q := by
  refine wp_value hr ?_
  cases heap with
  | true =>
    simp only [newVarAt, if_true] at k
    obtain ⟨G', hn, hi, hb, _⟩ := h.inv.newBox cs vs ty hv h1
    exact .of ((h.step hn hi).set o.dst (.of (.ref _ _ _ hb)) (by simp)) k
  | false =>
    simp only [newVarAt, Bool.false_eq_true, if_false] at k
    cases ho : o.dst with
    | none => rw [ho] at k; exact k.elim
    | some t =>
      rw [ho] at k
      exact .of (h.newLoc t (hd t ho) cs vs ty hv h1) k

theorem run_storeAt' (w : World) (B o : Nat) (t : TypeId) (v : Value) (i : TypeInfo) (hi : P.info? t = some i) (hs : v.cells.toList.length = i.size) (ht : w.there B o v.cells.toList.length) (h1 : ∀ c ∈ v.cells.toList, c.oneCell' = true) :
    (Instr.storeAt t (.pointer (some ⟨B, o, none⟩)) v).run P w = .ok () (w.setCells B o v.cells.toList) := by
  have key := run_storeCells_cells (P := P) B o v.cells.toList 0 w (fun j hj => by simpa using (ht j hj).1) (fun j hj => by simpa using (ht j hj).2) h1
  have hs' : v.cells.size = i.size := by simpa using hs
  simp only [Nat.add_zero] at key
  simp [Instr.storeAt, Instr.sureAddr, storeVar, sizeOf, typeInfo, hi, hs', key]

theorem VRels.ones {cs : List AV} {vs : List Value} (h : VRels G cs vs) (h1 : ∀ c ∈ cs, c.one = true) : ∀ v ∈ vs, v.oneCell' = true := by
  intro v hv
  obtain ⟨j, hj, rfl⟩ := List.getElem_of_mem hv
  have hjc : j < cs.length := by rw [← h.1]; exact hj
  have := h.2 j hjc
  rw [List.getD_eq_getElem?_getD, List.getElem?_eq_getElem hjc, List.getD_eq_getElem?_getD, List.getElem?_eq_getElem hj] at this
  exact VRel.one this (h1 _ (List.getElem_mem _))

theorem store_sound (h : Rel W0 G0 w0 N G L st H ca w) {t : TypeId} {i : TypeInfo} (hi : P.info? t = some i) {x v : Operand} {x' v' : Opd} (hx : cOpd N x = some x') (hv : cOpd N v = some v')
    (ho : o.op = .store t x v) {ns : List AV} (hc : (st.ev v').cells? = some ns) (k : storeAV i.size (st.ev x') ns o.dst K st H) : o.wp P ca w (Post W0 G0 w0 N K) Q := by
  have h1 := h.opd hx
  have h2 := h.opd hv
  have h2' : VRel G (st.ev v') (ca.eval v) := h2.rel (fun t off e => by rw [e] at hc; simp [AV.cells?, AV.one] at hc)
  obtain ⟨hcr, hones⟩ := h2'.cells hc
  have hvl : (ca.eval v).cells.toList.length = ns.length := hcr.1
  obtain ⟨hn, k⟩ := k
  have ex : execOp ca.eval o = (do Instr.storeAt t (ca.eval x) (ca.eval v); pure .skip) := by simp only [execOp, ho]
  generalize hax : st.ev x' = a at *
  cases a <;> simp only at k <;> try exact k.elim
  · rename_i b off
    split at k
    · rename_i cs hb
      obtain ⟨hle, k⟩ := k
      have := h1.rel (by simp)
      generalize hvx : ca.eval x = vx at *
      cases this with
      | ref _ _ B hB =>
        obtain ⟨B', vs, ty, fz, hB', hh, hs, hfz, hl, hcv⟩ := h.inv.obj b _ hb
        rw [hB] at hB'; cases hB'
        have there : w.there B off (ca.eval v).cells.toList.length := fun j hj => by
          have : off + j < vs.size := by omega
          have hz := hfz _ this
          simp only [World.cell?, World.frozen?, hh]
          simp [this]
          simpa using hz
        have run := run_storeAt' (P := P) w B off t (ca.eval v) i hi (by omega) there (hcr.ones hones)
        refine wp_skip' (w' := w.setCells B off (ca.eval v).cells.toList) (by rw [ex]; simp [run]) ?_
        have hi' := h.inv.store b B off cs ns _ hb hB (by omega) hcr hones
        have hn' : Next G w G (w.setCells B off (ca.eval v).cells.toList) := (Next.refl G w).setCells B vs.size off _ hs
        exact .of ((h.step hn' hi').set o.dst (.of (.pl _)) (by simp)) k
    · exact k.elim
  · rename_i l off
    split at k
    · rename_i cs hb
      obtain ⟨hle, k⟩ := k
      rcases h1 with ⟨l', off', B, e, hB, hvx⟩ | h1
      · cases e
        obtain ⟨B', vs, ty, p1, p2, p3, hh, hr, p6⟩ := h.locs l cs hb
        rw [hB] at p1; cases p1
        have there : w.there B off (ca.eval v).cells.toList.length := fun j hj => by
          have : off + j < vs.length := by rw [hr.1]; omega
          simp only [World.cell?, World.frozen?, hh]
          simp [this]
        have run := run_storeAt' (P := P) w B off t (ca.eval v) i hi (by omega) there (hcr.ones hones)
        refine wp_skip' (w' := w.setCells B off (ca.eval v).cells.toList) (by rw [ex, hvx]; simp [run]) ?_
        exact .of ((h.setLoc l off B cs ns _ hb hB (by omega) hcr hones).set o.dst (.of (.pl _)) (by simp)) k
      · cases h1
    · exact k.elim

theorem AV.cells_one {x : AV} {cs : List AV} (h : x.cells? = some cs) : ∀ c ∈ cs, c.one = true := by
  have single : (if x.one then some [x] else none) = some cs → ∀ c ∈ cs, c.one = true := by
    intro e
    split at e
    · rename_i q
      cases e
      simpa using q
    · cases e
  cases x with
  | agg es =>
    simp only [AV.cells?] at h
    split at h
    · rename_i q
      cases h
      simpa using q
    · cases h
  | _ => exact single h
theorem sarr_sound (h : Rel W0 G0 w0 N G L st H ca w) {t e : TypeId} {n : Nat} {i : TypeInfo} (ht : P.underlying t = some (.array n e)) (hi : P.info? e = some i) {x : Operand} {x' : Opd} (hx : cOpd N x = some x')
    {r : AV} (hr : sarrAV n i.size H (st.ev x') = some r) : Gives P G L st w (Instr.sliceAt t (ca.eval x) none none none) r := by
  have h1 := h.opd hx
  unfold sarrAV at hr
  split at hr
  · rename_i b e1
    split at hr
    · rename_i cs hb
      split at hr
      · rename_i hc
        cases hr
        rw [e1] at h1
        have h2 := h1.rel (by simp)
        generalize ca.eval x = vx at *
        cases h2 with
        | ref _ _ B hB =>
          obtain ⟨B', vs, ty, fz, hB', hh, hsv, hfz, hlv, hcv⟩ := h.inv.obj b _ hb
          rw [hB] at hB'; cases hB'
          refine .rel (v := .slice (some ⟨B, 0, none⟩) n n) ?_ ?_
          · by_cases hn : n = 0 <;> simp [Instr.sliceAt, run_underlying ht, Instr.sureAddr, Instr.sliceBounds, sizeOf, typeInfo, hi, add_plain, hn]
          · have := VRel.arr (G := G) b 0 n i.size B n vs.size hB (Nat.le_refl _) hc.1 hsv (by simp; omega)
            simpa using this
      · cases hr
    · cases hr
  · cases hr
theorem copy_sound (h : Rel W0 G0 w0 N G L st H ca w) {t tx e : TypeId} {i : TypeInfo} (ht : P.underlying t = some (.slice e)) (hi : P.info? e = some i) {x y : Operand} {x' : Opd} (hx : cOpd N x = some x')
    (hop : execOp ca.eval o = (do pure (.value (← Builtin.copy_ #[t, tx] o.type #[ca.eval x, ca.eval y])))) {ys : List AV} {news : List Value} (hys : ∀ y ∈ ys, y.isSize i.size = true) (hn : VRels G (flat ys) news) (hs : Src P i.size tx (ca.eval y) ys.length news w)
    (k : copyAV i.size (st.ev x') ys o.dst K st H) : o.wp P ca w (Post W0 G0 w0 N K) Q := by
  have h1 := h.opd hx
  generalize hax : st.ev x' = a at *
  cases a <;> simp only [copyAV] at k <;> try exact k.elim
  · rename_i v
    split at k
    · rename_i q; cases q
    rotate_left
    · exact k.elim
    rename_i q
    cases q
    obtain ⟨rfl, k⟩ := k
    have h2 := h1.rel (by simp)
    generalize hvx : ca.eval x = vx at *
    cases h2
    have hc : (Builtin.firstCells i.size 0 (ca.eval y)).run P w = .ok news.toArray w := hs.cells
    have hl : (Builtin.lenOf (ca.eval y)).run P w = .ok 0 w := hs.len w
    refine wp_value (v := .int .i64 0) (w' := w) (by rw [hop]; simp [Builtin.copy_, run_underlying ht, hl, sizeOf, typeInfo, hi, hc, goInt]) ?_
    exact .of (h.set o.dst (.of (.int _ _)) (by simp)) k
  · rename_i b start len sz
    obtain ⟨rfl, hle, k⟩ := k
    split at k <;> try exact k.elim
    rename_i cs hb
    obtain ⟨hcs, k⟩ := k
    have h2 := h1.rel (by simp)
    generalize hvx : ca.eval x = vx at *
    cases h2 with
    | arr _ _ _ _ B cap szb hB hcap hmax hsz hroom =>
      obtain ⟨B', vs, ty, fz, hB', hh, hsv, hfz, hlv, hcv⟩ := h.inv.obj b _ hb
      rw [hB] at hB'; cases hB'
      have hnl : news.length = (flat ys).length := hn.1
      have hones : ∀ c ∈ flat ys, c.one = true := fun c hc => by
        obtain ⟨y0, hy0, hc0⟩ := List.mem_flatMap.1 hc
        have := hys y0 hy0
        simp only [AV.isSize] at this
        split at this
        · rename_i cs0 hcs0
          simp only [AV.cells, hcs0, Option.getD_some] at hc0
          exact AV.cells_one hcs0 c hc0
        · cases this
      have key := run_storeCells_cells (P := P) B (start * i.size) news 0 w (fun j hj => by
          have : start * i.size + j < vs.size := by omega
          simp only [World.cell?, hh]
          simp [this]) (fun j hj => by
          have hz := hfz (start * i.size + j) (by omega)
          simp only [World.frozen?, hh]
          simpa using hz) hs.one
      simp only [Nat.add_zero] at key
      have hc := hs.cells
      have hl := hs.len w
      have hmin : Nat.min ys.length len = ys.length := Nat.min_eq_left hle
      refine wp_value (v := .int .i64 ys.length) (w' := w.setCells B (start * i.size) news) (by
        rw [hop]
        simp [Builtin.copy_, run_underlying ht, hl, sizeOf, typeInfo, hi, hmin, hc, goInt, key]) ?_
      have hi' := h.inv.store b B (start * i.size) cs (flat ys) _ hb hB hcs hn hones
      have hn' : Next G w G (w.setCells B (start * i.size) news) := (Next.refl G w).setCells B vs.size (start * i.size) _ hsv
      exact .of ((h.step hn' hi').set o.dst (.of (.int _ _)) (by simp)) k

theorem clr_sound (h : Rel W0 G0 w0 N G L st H ca w) {t e : TypeId} {i : TypeInfo} {z : Value} {za : AV} (ht : P.underlying t = some (.slice e)) (hi : P.info? e = some i) (hz : i.zero = some z) (hzc : z.cells = #[z]) (hza : AV.ofCell z = some za) {x : Operand} {x' : Opd} (hx : cOpd N x = some x')
    (hop : execOp ca.eval o = (do pure (.value (← Builtin.clear_ #[t] o.type #[ca.eval x])))) (k : clrAV za (st.ev x') o.dst K st H) : o.wp P ca w (Post W0 G0 w0 N K) Q := by
  have h1 := h.opd hx
  obtain ⟨hzr, hzo, hzv⟩ := AV.ofCell_rel (G := G) hza
  generalize hax : st.ev x' = a at *
  cases a <;> simp only [clrAV] at k <;> try exact k.elim
  · rename_i own full esz es
    split at k
    · rename_i q; cases q
    rotate_left
    · exact k.elim
    rename_i q
    cases q
    have h2 := h1.rel (by simp)
    generalize hvx : ca.eval x = vx at *
    cases h2
    refine wp_value (v := undef) (w' := w) (by rw [hop]; simp [Builtin.clear_, run_underlying ht, undef]) ?_
    exact .of (h.set o.dst (.of (.pl _)) (by simp)) k
  · rename_i b start len sz
    obtain ⟨rfl, hlen, k⟩ := k
    split at k <;> try exact k.elim
    rename_i cs hb
    obtain ⟨hcs, k⟩ := k
    have h2 := h1.rel (by simp)
    generalize hvx : ca.eval x = vx at *
    cases h2 with
    | arr _ _ _ _ B cap szb hB hcap hmax hsz hroom =>
      obtain ⟨B', vs, ty, fz, hB', hh, hsv, hfz, hlv, hcv⟩ := h.inv.obj b _ hb
      rw [hB] at hB'; cases hB'
      have run := Lib.run_clear_slice w t e o.type z ht (fun w => by simp [zeroValue, typeInfo, hi, hz]) hzc hzv B (start * 1) len cap hlen (fun j hj => by
          have : start + j < vs.size := by omega
          simp only [World.cell?, hh, Nat.mul_one]
          simp [this]) (fun j hj => by
          have hz := hfz (start + j) (by omega)
          simp only [World.frozen?, hh, Nat.mul_one]
          simpa using hz)
      refine wp_value (v := undef) (w' := w.setCells B (start * 1) (List.replicate len z)) (by
        rw [hop]
        simp only [Sem.run_bind, run, Result.andThen_ok, Sem.run_pure]
        rfl) ?_
      have hr : VRels G (List.replicate len za) (List.replicate len z) := ⟨by simp, fun j hj => by
        have : j < len := by simpa using hj
        simp only [List.getD_eq_getElem?_getD, List.getElem?_replicate, this, if_true, Option.getD_some]
        exact hzr⟩
      have hi' := h.inv.store b B (start * 1) cs (List.replicate len za) _ hb hB (by simp; omega) hr (fun c hc => by rw [List.eq_of_mem_replicate hc]; exact hzo)
      have hn' : Next G w G (w.setCells B (start * 1) (List.replicate len z)) := (Next.refl G w).setCells B vs.size (start * 1) _ hsv
      simp only [Nat.mul_one] at hi' hn' ⊢
      exact .of ((h.step hn' hi').set o.dst (.of (.pl _)) (by simp)) k

theorem call_sound (h : Rel W0 G0 w0 N G L st H ca w) {f : Operand} {f' : Opd} (hf : cOpd N f = some f') {xs : List Operand} {ys : List Opd} (hx : xs.mapM (cOpd N) = some ys) {tys : Array TypeId}
    (ho : o.op = .call { callee := .value f, args := xs.toArray, argTypes := tys }) (hny : ∀ b, st.ev f' ≠ .yfn b) (k : callAV P W0 (st.ev f') (ys.map st.ev) o.dst K st H) : o.wp P ca w (Post W0 G0 w0 N K) Q := by
  have h1 := h.opd hf
  generalize hv : ca.eval f = vf at *
  generalize st.ev f' = a at *
  cases a <;> simp only [callAV] at k <;> try exact k.elim
  rotate_left
  · rename_i b; exact (hny b rfl).elim
  rename_i fn first captured
  cases fn <;> simp only at k <;> try exact k.elim
  rename_i g
  obtain ⟨hg, he, k⟩ := k
  rw [List.all_append, List.all_append, Bool.and_eq_true, Bool.and_eq_true] at hg
  have hr := opds_rel h hx hg.1.2
  have := h1.rel (by simp)
  cases this with
  | fn _ _ _ vfs vcs hlf hlc hf hc =>
    have hargs : VRels G (first ++ ys.map st.ev ++ captured) (vfs ++ xs.map ca.eval ++ vcs) := VRels.append (VRels.append ⟨hlf, hf⟩ hr) ⟨hlc, hc⟩
    have run : (execOp ca.eval o).run P w = .ok (.enter g (vfs ++ xs.map ca.eval ++ vcs).toArray) w := by
      have := he (vfs ++ xs.map ca.eval ++ vcs).toArray w
      simp only [execOp, ho, resolve, hv, Deferred.ofValue, Sem.run_bind, Sem.run_pure, Result.andThen_ok, invoke]
      rw [← this]
      congr 2
      simp
    unfold Oper.wp
    rw [run, Oper.upon_enter]
    refine (k G w _ h.inv hargs).mono fun e w' ⟨v, r, H', G', e1, q, hn, hi, hv⟩ => ?_
    subst e1
    exact .of ((h.step hn hi).set o.dst (.of hv) (fun i off e => by subst e; cases hv)) q

/-! ### Inside a round -/
section
variable {n : Nat} {ro : Option Nat} {a : Act} {K' : Act → World → Prop} {ops : Array Oper}
theorem calls_rf {f : FuncId} {args : Array Value} {R : Ending → World → Prop} (h : Calls P f args w R) : CallsIn (RF ro) n P f args w R := by
  have h' : CallsIn Fence.wide n P f args w R := callsIn_wide.2 h
  cases ro with
  | none => exact h'
  | some l => exact CallsIn.inRound l h'
theorem rows_rf {row : String} {args : Array Value} {R : Value → World → Prop} (h : Rows P row args w R) : RowsIn (RF ro) n P row args w R :=
  fun c cs _ => let ⟨v, w', r, s⟩ := h c cs; ⟨v, w', r, stepsIn_wide.2 s⟩
theorem oper_rf (hnd : ∀ c, o.op ≠ .defer c) (h : o.wp P a w K' Q) : o.wpIn (RF ro) n P a w K' Q := by
  unfold Oper.wp at h
  refine ⟨fun f _ => trivial, ?_⟩
  rw [Oper.semAt_eq _ _ _ hnd]
  generalize (execOp a.eval o).run P w = r at *
  cases r with
  | ok x w' =>
    cases x <;> simp only [Oper.upon, Oper.uponIn] at h ⊢ <;> first
      | exact h
      | exact h.elim
      | exact ⟨fun q => (by cases q), calls_rf h⟩
      | exact ⟨fun q => (by cases q), rows_rf h⟩
  | halt x w' => cases x <;> simp only [Oper.upon, Oper.uponIn] at h ⊢ <;> first | exact h | exact h.elim

/-- A round is called. -/
theorem yield_sound (h : Rel W0 G0 w0 N G L st H ca w) {f : Operand} {f' : Opd} (hf : cOpd N f = some f') {xs : List Operand} {ys : List Opd} (hx : xs.mapM (cOpd N) = some ys) {tys : Array TypeId}
    (ho : o.op = .call { callee := .value f, args := xs.toArray, argTypes := tys }) {b : Nat} (hb : st.ev f' = .yfn b) (k : callAV P W0 (st.ev f') (ys.map st.ev) o.dst K st H) : o.wpIn (RF ro) n P ca w (Post W0 G0 w0 N K) Q := by
  have h1 := h.opd hf
  rw [hb] at h1 k
  have h2 := h1.rel (by simp)
  generalize hv : ca.eval f = vf at *
  cases h2 with
  | yfn _ B hB =>
    obtain ⟨hg, k⟩ := k
    have hr := opds_rel h hx hg
    obtain ⟨fn, tmps, asg, body, hy, hR⟩ := k G w B _ (n - 1) h.inv hB hr
    have run : (execOp ca.eval o).run P w = .ok (.round B fn tmps asg body) w := by
      simp only [execOp, ho, resolve, hv, Deferred.ofValue, Sem.run_bind, Sem.run_pure, Result.andThen_ok, invoke]
      rw [← hy]
      congr 2
      simp
    refine ⟨fun _ _ => trivial, ?_⟩
    rw [Oper.semAt_eq _ _ _ (by intro c e; rw [ho] at e; cases e), run, Oper.uponIn_round]
    refine ⟨fun q => (by cases q), ?_⟩
    have hR' : RoundIn (RF ro) (n - 1) P B fn tmps asg body w _ := hR
    refine hR'.mono fun e w' ⟨v, r, H', G', e1, q, hn, hi, hv⟩ => ?_
    subst e1
    exact .of ((h.step hn hi).set o.dst (.of hv) (fun i off e => by subst e; cases hv)) q
end
end
end Go.Qa
