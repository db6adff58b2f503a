/- The abstract machine: operations whose order is left open: one order tells of all. -/
import Derived.Test.YtanfmlmcddanjaaGreatDoorRQaEvC
set_option linter.all false
namespace Go.Qa
open Go Go.RowKit

noncomputable def mkS (s : Tr AV) : AS := { s := fun i => (s.get i).getD .any, loc := fun _ => none }
noncomputable def putO (s : Tr AV) (d : Option Nat) (v : AV) : Tr AV :=
  match d with
  | some t => s.put t v
  | none => s
noncomputable def putOK {R : Type} (s : Tr AV) (d : Option Nat) (v : AV) (k : Tr AV → R) : R :=
  match d with
  | some t => Tr.putK (path t) v s k
  | none => k s
theorem putOK_eq {R : Type} (s : Tr AV) (d : Option Nat) (v : AV) (k : Tr AV → R) : putOK s d v k = k (putO s d v) := by
  cases d with
  | none => rfl
  | some t => exact Tr.putK_eq _ _ _ _
theorem mkS_putO (s : Tr AV) (d : Option Nat) (v : AV) : mkS (putO s d v) = (mkS s).set d v := by
  cases d with
  | none => rfl
  | some t =>
    simp only [mkS, putO, AS.set, AS.mk.injEq, true_and]
    refine ⟨?_, ?_⟩
    · funext i
      rw [Tr.get_put]
      split <;> rfl
    · funext i; simp

/-! ### The plan of a region -/
inductive Before (after : List (List Nat)) : Nat → Nat → Prop
  | edge (i j : Nat) (h : j ∈ after.getD i []) : Before after j i
  | trans (i j k : Nat) (h : Before after i j) (h' : Before after j k) : Before after i k
theorem reachL_ok (after : List (List Nat)) : ∀ (r acc : List (List Nat)), after.drop acc.length = r → (∀ i j, j ∈ acc.getD i [] → Before after j i) → ∀ i j, j ∈ (reachL acc r).getD i [] → Before after j i
  | [], acc, hr, ha => by simpa [reachL] using ha
  | a :: r, acc, hr, ha => by
    have hl : acc.length < after.length := by
      have := congrArg List.length hr
      simp at this; omega
    have hget : after.getD acc.length [] = a := by
      rw [List.getD_eq_getElem?_getD, ← List.head?_drop, hr]; rfl
    refine reachL_ok after r _ ?_ ?_
    · rw [List.length_append, List.length_singleton, ← List.drop_drop, hr]; rfl
    · intro i j hj
      rw [List.getD_eq_getElem?_getD, List.getElem?_append] at hj
      split at hj
      · rw [← List.getD_eq_getElem?_getD] at hj; exact ha i j hj
      · by_cases q : i = acc.length
        · subst q
          simp only [Nat.sub_self, List.getElem?_cons_zero, Option.getD_some, List.mem_append, List.mem_flatMap] at hj
          rcases hj with hj | ⟨k, hk, hj⟩
          · exact .edge _ _ (by rw [hget]; exact hj)
          · exact .trans _ k _ (ha _ _ hj) (.edge _ _ (by rw [hget]; exact hk))
        · rw [List.getElem?_eq_none (by simp; omega)] at hj
          simp at hj
theorem Before.done {after : List (List Nat)} {done : List Nat} (hc : ∀ i ∈ done, ∀ j ∈ after.getD i [], j ∈ done) {i j : Nat} (h : Before after j i) : i ∈ done → j ∈ done := by
  induction h with
  | edge i j h => exact fun hi => hc i hi j h
  | trans i j k h h' ih ih' => exact fun hk => ih (ih' hk)
theorem Before.ready {after : List (List Nat)} {done : List Nat} (hc : ∀ i ∈ done, ∀ j ∈ after.getD i [], j ∈ done) {i j : Nat} (h : Before after j i) : (∀ j ∈ after.getD i [], j ∈ done) → j ∈ done := by
  induction h with
  | edge i j h => exact fun hi => hi j h
  | trans i j k h h' ih ih' => exact fun hk => h.done hc (ih' hk)
theorem Before.lt {after : List (List Nat)} (hd : ∀ i j, j ∈ after.getD i [] → j < i) {i j : Nat} (h : Before after j i) : j < i := by
  induction h with
  | edge i j h => exact hd i j h
  | trans i j k h h' ih ih' => omega

def opAt (l : List AOper) (i : Nat) : AOper := l.getD i default
def sameDst : Option Nat → Option Nat → Bool
  | some a, some b => Nat.beq a b
  | _, _ => false
def isP (pn : List (Option APend)) (i : Nat) : Bool := match pn.getD i none with | some _ => true | none => false
def wrs (l : List AOper) (pn : List (Option APend)) (pubs : List (List Nat)) (i : Nat) : List Nat :=
  (if isP pn i then [] else match (opAt l i).dst with | some t => [t] | none => []) ++ pubs.getD i []
def sloud (l : List AOper) (pn : List (Option APend)) (pubs : List (List Nat)) (i : Nat) : Bool := (!isP pn i && (opAt l i).op.loud) || !(pubs.getD i []).isEmpty
def APend.rd : APend → List Nat
  | .cells _ | .map => []
  | .box x => x.rd
  | .arr _ _ _ x y => x.rd ++ y.rd
theorem APend.obj_congr {p : APend} {st st' : AS} (a : ∀ t ∈ p.rd, st.s t = st'.s t) : p.obj st = p.obj st' := by
  cases p with
  | cells => rfl
  | map => rfl
  | box x => simp only [APend.obj, ev_congr (x := x) a]
  | arr e b z x y =>
    simp only [APend.rd, List.mem_append] at a
    simp only [APend.obj, ev_congr (x := x) (fun t ht => a t (.inl ht)), ev_congr (x := y) (fun t ht => a t (.inr ht))]
def mkOf (l : List AOper) (pn : List (Option APend)) (t : Nat) : APend :=
  ((List.range l.length).findSome? fun i => if sameDst (opAt l i).dst (some t) then pn.getD i none else none).getD .map
/-- A step of a region: what is taken up first; what is done then. -/
structure DStep where
  pre : List (Nat × APend)
  op : Option AOper
  deriving Inhabited
def stepsOf (l : List AOper) (pn : List (Option APend)) (pubs : List (List Nat)) : List DStep :=
  (List.range l.length).map fun i => ⟨(pubs.getD i []).map fun t => (t, mkOf l pn t), if isP pn i then none else some (opAt l i)⟩
def stAt (l : List DStep) (i : Nat) : DStep := l.getD i default
def loudsOf (l : List AOper) (pn : List (Option APend)) (pubs : List (List Nat)) : List Nat := (List.range l.length).filter fun i => sloud l pn pubs i
/-- Before op i, the first k of the loud ones can have been done. -/
def possible (R : List (List Nat)) (louds : List Nat) (i k : Nat) : Bool :=
  (List.range louds.length).all fun q => (!(R.getD i []).contains (louds.getD q 0) || Nat.blt q k) && (!Nat.blt q k || !(R.getD (louds.getD q 0) []).contains i)
def ptOf (louds : List Nat) (k : Nat) : Nat := match k with | 0 => 0 | k + 1 => louds.getD k 0 + 1
def heapyAt (l : List AOper) (pn : List (Option APend)) (pubs : List (List Nat)) (i : Nat) : Bool := !isP pn i && !sloud l pn pubs i && (opAt l i).op.heapy
def cksOf (l : List AOper) (after : List (List Nat)) (pn : List (Option APend)) (pubs : List (List Nat)) : List (Nat × List Nat) :=
  let R := reachL [] after
  let louds := loudsOf l pn pubs
  ((List.range l.length).filter fun i => heapyAt l pn pubs i).filterMap fun i =>
    let ps := ((List.range (louds.length + 1)).filter fun k => possible R louds i k && !Nat.beq k (louds.countP fun j => Nat.blt j i)).map (ptOf louds)
    if ps.isEmpty then none else some (i, ps)
def disjB (a b : List Nat) : Bool := a.all fun t => b.all fun u => !Nat.beq t u
def nodupB : List Nat → Bool
  | [] => true
  | a :: r => r.all (fun b => !Nat.beq a b) && nodupB r
def planOk (l : List AOper) (after : List (List Nat)) (pn : List (Option APend)) (pubs : List (List Nat)) (cks : List (Nat × List Nat)) : Bool :=
  let R := reachL [] after
  let louds := loudsOf l pn pubs
  let n := l.length
  (after.zipIdx.all fun p => p.1.all fun j => Nat.blt j p.2) &&
  ((List.range n).all fun i => nodupB (wrs l pn pubs i) && (List.range n).all fun j => Nat.beq i j || disjB (wrs l pn pubs i) (wrs l pn pubs j)) &&
  ((List.range n).all fun i => isP pn i || (opAt l i).rd.all fun t => (List.range n).all fun j => !(wrs l pn pubs j).contains t || (R.getD i []).contains j || (!(pubs.getD j []).contains t && (R.getD j []).contains i) || Nat.beq i j) &&
  ((List.range n).all fun i => match pn.getD i none with
    | some p => (p.rd.all fun t => (List.range n).all fun j => !(wrs l pn pubs j).contains t || (R.getD i []).contains j) &&
      (match (opAt l i).dst with
        | some t => ((List.range n).any fun j => (pubs.getD j []).contains t && (R.getD j []).contains i) && (List.range n).all fun j => Nat.beq i j || !isP pn j || !sameDst (opAt l j).dst (some t)
        | none => false)
    | none => true) &&
  ((List.range n).all fun j => (pubs.getD j []).all fun t => (List.range n).any fun i => isP pn i && sameDst (opAt l i).dst (some t) && (R.getD j []).contains i) &&
  (louds.all fun i => louds.all fun j => !Nat.blt i j || (R.getD j []).contains i) &&
  ((List.range n).all fun i => !heapyAt l pn pubs i || ((List.range (louds.length + 1)).all fun k =>
    !possible R louds i k || Nat.beq k (louds.countP fun j => Nat.blt j i) || cks.any fun c => Nat.beq c.1 i && c.2.contains (ptOf louds k)))

/-! ### The run -/
abbrev Trace := List (AV × EH × Tr AV)
noncomputable def preE (s0 : Tr AV) : List (Nat × APend) → Tr AV → EH → Option (Tr AV × EH)
  | [], s, h => some (s, h)
  | (t, p) :: r, s, h => match p.obj (mkS s0) with
    | some o => fAV (o.av h.n) fun v => fEH (h.push o.obj) fun h' => Tr.putK (path t) v s fun s' => preE s0 r s' h'
    | none => none
noncomputable def evT (go : GoE) : List DStep → Tr AV → EH → Option (Tr AV × Trace)
  | [], s, h => some (s, [])
  | d :: r, s, h => match preE s d.pre s h with
    | some (s1, h1) => match d.op with
      | some o => match o.evE go (mkS s1) h1 with
        | some (v, h') => fAV v fun v => fEH h' fun h' => putOK s1 o.dst v fun s' => match evT go r s' h' with
          | some (sf, tr) => some (sf, (v, h', s1) :: tr)
          | none => none
        | none => none
      | none => match evT go r s1 h1 with
        | some (sf, tr) => some (sf, (.any, h1, s1) :: tr)
        | none => none
    | none => none
noncomputable def heapPt : EH → Trace → Nat → EH
  | h, _, 0 => h
  | h, [], _ + 1 => h
  | _, x :: tr, p + 1 => heapPt x.2.1 tr p
theorem heapPt_zero (h : EH) (tr : Trace) : heapPt h tr 0 = h := by cases tr <;> rfl
noncomputable def valPt (tr : Trace) (i : Nat) : AV := (tr.getD i (.any, ⟨.e, 0⟩, .e)).1
noncomputable def stPt (tr : Trace) (i : Nat) : Tr AV := (tr.getD i (.any, ⟨.e, 0⟩, .e)).2.2
noncomputable def ckAt (go : GoE) (d : DStep) (s : Tr AV) (v : AV) (hp : EH) : Bool := match d.op with
  | some o => match o.evE go (mkS s) hp with
    | some (v', _) => sameF 1000 v' v
    | none => false
  | none => true
noncomputable def evDraw (go : GoE) (l : List DStep) (cks : List (Nat × List Nat)) (s : Tr AV) (h : EH) : Option (Tr AV × EH) :=
  match evT go l s h with
  | some (sf, tr) => sel (cks.all fun c => c.2.all fun p => ckAt go (stAt l c.1) (stPt tr c.1) (valPt tr c.1) (heapPt h tr p)) (some (sf, heapPt h tr tr.length)) none
  | none => none

theorem evT_fact {go : GoE} : ∀ {l : List DStep} {s : Tr AV} {h : EH} {sf : Tr AV} {tr : Trace}, evT go l s h = some (sf, tr) →
    ∃ (S A : Nat → Tr AV) (B : Nat → EH), S 0 = s ∧ S l.length = sf ∧ tr.length = l.length ∧ ∀ i, i < l.length →
      preE (S i) (stAt l i).pre (S i) (heapPt h tr i) = some (A i, B i) ∧ stPt tr i = A i ∧
      (∀ o, (stAt l i).op = some o → o.evE go (mkS (A i)) (B i) = some (valPt tr i, heapPt h tr (i + 1)) ∧ S (i + 1) = putO (A i) o.dst (valPt tr i)) ∧
      ((stAt l i).op = none → heapPt h tr (i + 1) = B i ∧ S (i + 1) = A i)
  | [], s, h, sf, tr, e => by
    simp only [evT, Option.some.injEq, Prod.mk.injEq] at e
    obtain ⟨rfl, rfl⟩ := e
    exact ⟨fun _ => s, fun _ => s, fun _ => h, rfl, rfl, rfl, fun i hi => by simp at hi⟩
  | d :: l, s, h, sf, tr, e => by
    simp only [evT, fAV_eq, fEH_eq, putOK_eq] at e
    split at e
    rotate_left
    · cases e
    rename_i s1 h1 hpre
    split at e
    · rename_i o ho
      split at e
      rotate_left
      · cases e
      rename_i v h' hov
      split at e
      rotate_left
      · cases e
      rename_i sf' tr' ht
      simp only [Option.some.injEq, Prod.mk.injEq] at e
      obtain ⟨rfl, rfl⟩ := e
      obtain ⟨S, A, B, h0, hn, hl, hs⟩ := evT_fact ht
      refine ⟨fun i => match i with | 0 => s | i + 1 => S i, fun i => match i with | 0 => s1 | i + 1 => A i, fun i => match i with | 0 => h1 | i + 1 => B i, rfl, hn, by simp [hl], fun i hi => ?_⟩
      cases i with
      | zero =>
        refine ⟨by simpa [stAt, heapPt] using hpre, by simp [stPt], fun o' ho' => ?_, fun q => ?_⟩
        · have : o' = o := by
            simp only [stAt, List.getD_cons_zero] at ho'
            rw [ho] at ho'; exact (Option.some.inj ho').symm
          subst this
          refine ⟨?_, ?_⟩
          · simpa [heapPt, valPt, heapPt_zero] using hov
          · simpa [valPt] using h0
        · simp only [stAt, List.getD_cons_zero] at q
          rw [ho] at q; cases q
      | succ i =>
        have := hs i (by simpa using hi)
        simpa [stAt, heapPt, valPt, stPt] using this
    · rename_i ho
      split at e
      rotate_left
      · cases e
      rename_i sf' tr' ht
      simp only [Option.some.injEq, Prod.mk.injEq] at e
      obtain ⟨rfl, rfl⟩ := e
      obtain ⟨S, A, B, h0, hn, hl, hs⟩ := evT_fact ht
      refine ⟨fun i => match i with | 0 => s | i + 1 => S i, fun i => match i with | 0 => s1 | i + 1 => A i, fun i => match i with | 0 => h1 | i + 1 => B i, rfl, hn, by simp [hl], fun i hi => ?_⟩
      cases i with
      | zero =>
        refine ⟨by simpa [stAt, heapPt] using hpre, by simp [stPt], fun o' ho' => ?_, fun q => ?_⟩
        · simp only [stAt, List.getD_cons_zero] at ho'
          rw [ho] at ho'; cases ho'
        · refine ⟨by simp [heapPt, heapPt_zero], by simpa using h0⟩
      | succ i =>
        have := hs i (by simpa using hi)
        simpa [stAt, heapPt, valPt, stPt] using this

/-- What is taken up: the slots it writes; the heap. -/
theorem preE_frame {s0 : Tr AV} : ∀ {l : List (Nat × APend)} {s s1 : Tr AV} {h h1 : EH}, preE s0 l s h = some (s1, h1) → ∀ t, t ∉ l.map (·.1) → (mkS s1).s t = (mkS s).s t
  | [], s, s1, h, h1, e, t, ht => by cases e; rfl
  | (u, p) :: r, s, s1, h, h1, e, t, ht => by
    simp only [preE, fAV_eq, fEH_eq, Tr.putK_eq] at e
    split at e
    · rename_i o ho
      simp only [List.map_cons, List.mem_cons, not_or] at ht
      rw [preE_frame e t ht.2]
      show (Option.getD ((s.put u _).get t) _) = _
      rw [Tr.get_put, if_neg ht.1]; rfl
    · cases e
theorem preE_obj {s0 : Tr AV} : ∀ {l : List (Nat × APend)} {s s1 : Tr AV} {h h1 : EH}, preE s0 l s h = some (s1, h1) → ∀ x ∈ l, ∃ o, x.2.obj (mkS s0) = some o
  | [], s, s1, h, h1, e, x, hx => by cases hx
  | (u, p) :: r, s, s1, h, h1, e, x, hx => by
    simp only [preE, fAV_eq, fEH_eq, Tr.putK_eq] at e
    split at e
    · rename_i o ho
      rcases List.mem_cons.1 hx with rfl | hx
      · exact ⟨o, ho⟩
      · exact preE_obj e x hx
    · cases e
/-- After what was taken up. -/
def pubAS (ts : List Nat) (s1 : Nat → AV) (st : AS) : AS := { s := fun t => if t ∈ ts then s1 t else st.s t, loc := st.loc, pnd := fun t => if t ∈ ts then none else st.pnd t }
theorem preE_run {s0 : Tr AV} {K : AS → AHeap → Prop} : ∀ {l : List (Nat × APend)} {s s1 : Tr AV} {h h1 : EH} {st : AS}, preE s0 l s h = some (s1, h1) → (l.map (·.1)).Nodup → (∀ x ∈ l, st.pnd x.1 = x.2.obj (mkS s0)) →
    K (pubAS (l.map (·.1)) (mkS s1).s st) h1.list → pubWp (l.map (·.1)) K st h.list
  | [], s, s1, h, h1, st, e, hd, hp, k => by
    cases e
    simp only [List.map_nil, pubWp]
    simpa [pubAS] using k
  | (u, p) :: r, s, s1, h, h1, st, e, hd, hp, k => by
    simp only [preE, fAV_eq, fEH_eq, Tr.putK_eq] at e
    split at e
    rotate_left
    · cases e
    rename_i o ho
    simp only [List.map_cons, List.nodup_cons] at hd
    have h2 := hp (u, p) (by simp)
    simp only [ho] at h2
    simp only [List.map_cons, pubWp, h2]
    rw [EH.length_list, ← EH.push_list]
    refine preE_run e hd.2 (fun x hx => ?_) ?_
    · have : x.1 ≠ u := fun q => hd.1 (q ▸ List.mem_map_of_mem hx)
      simp only [AS.pub]
      rw [if_neg this]
      exact hp x (List.mem_cons_of_mem _ hx)
    · have hu : (mkS s1).s u = o.av h.n := by
        rw [preE_frame e u hd.1]
        show (Option.getD ((s.put u _).get u) _) = _
        rw [Tr.get_put, if_pos rfl]; rfl
      have hm : ∀ t, t ≠ u → (t ∈ r.map (·.1) ↔ t ∈ u :: r.map (·.1)) := fun t q => by simp only [List.mem_cons, q, false_or]
      have : pubAS (r.map (·.1)) (mkS s1).s (st.pub u o h.n) = pubAS (u :: r.map (·.1)) (mkS s1).s st := by
        simp only [pubAS, AS.pub, AS.mk.injEq, true_and]
        refine ⟨?_, ?_⟩ <;> funext t <;> by_cases q : t = u
        · subst q; simp [hd.1, hu]
        · simp only [hm t q, q, if_false]
        · subst q; simp [hd.1]
        · simp only [hm t q, q, if_false]
      rw [this]
      exact k

/-! ### Small facts of lists -/
theorem louds_at (p : Nat → Bool) : ∀ (n i : Nat), i < n → p i = true → ((List.range n).filter fun i => p i)[((List.range i).filter fun i => p i).length]? = some i
  | 0, i, h, _ => by omega
  | n + 1, i, h, hl => by
    rw [List.range_succ, List.filter_append]
    by_cases e : i = n
    · subst e
      rw [List.getElem?_append_right (by omega)]
      simp [hl]
    · have := louds_at p n i (by omega) hl
      rw [List.getElem?_append_left (List.getElem?_eq_some_iff.1 this).1]
      exact this
theorem louds_lt (p : Nat → Bool) (n q i : Nat) (h : ((List.range n).filter fun i => p i)[q]? = some i) (hi : i < n) : q = ((List.range i).filter fun i => p i).length := by
  have hm := List.mem_of_getElem? h
  simp only [List.mem_filter] at hm
  have h2 := louds_at p n i hi hm.2
  have hnd : ((List.range n).filter fun i => p i).Nodup := List.nodup_range.filter _
  obtain ⟨a, b⟩ := List.getElem?_eq_some_iff.1 h
  obtain ⟨c, d⟩ := List.getElem?_eq_some_iff.1 h2
  exact (List.getElem_inj hnd).1 (b.trans d.symm)
theorem count_range (p : Nat → Bool) (n i : Nat) (h : i ≤ n) : ((List.range n).filter p).countP (fun j => Nat.blt j i) = ((List.range i).filter p).length := by
  induction n with
  | zero => have : i = 0 := by omega
            subst this; rfl
  | succ n ih =>
    rw [List.range_succ, List.filter_append, List.countP_append]
    by_cases e : i = n + 1
    · subst e
      have h1 : ((List.range n).filter p).countP (fun j => Nat.blt j (n + 1)) = ((List.range n).filter p).length := by
        rw [List.countP_eq_length]
        intro j hj
        simp only [List.mem_filter, List.mem_range] at hj
        simp [Nat.blt]; omega
      rw [h1, List.range_succ, List.filter_append, List.length_append]
      congr 1
      simp only [List.filter_cons, List.filter_nil]
      split <;> simp [Nat.blt]
    · rw [ih (by omega)]
      have : (List.filter p [n]).countP (fun j => Nat.blt j i) = 0 := by
        simp only [List.filter_cons, List.filter_nil]
        split
        · simp [Nat.blt]; omega
        · rfl
      omega

theorem set_ne {st : AS} {d : Option Nat} {x : AV} {t : Nat} (h : d ≠ some t) : (st.set d x).s t = st.s t := by
  cases d with
  | none => rfl
  | some u =>
    simp only [AS.set]
    rw [if_neg (fun e => h (by rw [e]))]
theorem set_eq {st : AS} {d : Option Nat} {x : AV} {t : Nat} (h : d = some t) : (st.set d x).s t = x := by
  subst h; simp [AS.set]
theorem set_loc (st : AS) (d : Option Nat) (x : AV) : (st.set d x).loc = st.loc := by cases d <;> rfl
theorem set_pnd {st : AS} {d : Option Nat} {x : AV} (h : st.pnd = fun _ => none) : (st.set d x).pnd = fun _ => none := by
  cases d with
  | none => exact h
  | some t => funext i; simp only [AS.set, h]; simp
theorem sameDst_iff {a : Option Nat} {t : Nat} : sameDst a (some t) = true ↔ a = some t := by
  cases a <;> simp [sameDst]

theorem disjB_ok {a b : List Nat} (h : disjB a b = true) {t : Nat} (ha : t ∈ a) (hb : t ∈ b) : False := by
  simp only [disjB, List.all_eq_true] at h
  have := h t ha t hb
  simp at this
theorem nodupB_ok : ∀ {l : List Nat}, nodupB l = true → l.Nodup
  | [], _ => .nil
  | a :: r, h => by
    simp only [nodupB, Bool.and_eq_true, List.all_eq_true, Bool.not_eq_true'] at h
    refine List.nodup_cons.2 ⟨fun hm => ?_, nodupB_ok h.2⟩
    have := h.1 a hm
    simp at this
theorem isP_true {pn : List (Option APend)} {i : Nat} (h : isP pn i = true) : ∃ p, pn.getD i none = some p := by
  unfold isP at h
  split at h
  · rename_i p hp; exact ⟨p, hp⟩
  · cases h
theorem isP_some {pn : List (Option APend)} {i : Nat} {p : APend} (h : pn.getD i none = some p) : isP pn i = true := by simp only [isP, h]
theorem isP_none {pn : List (Option APend)} {i : Nat} (h : isP pn i = false) : pn.getD i none = none := by
  unfold isP at h
  split at h
  · cases h
  · assumption

/-- What a plan says. -/
structure Plan (l : List AOper) (after : List (List Nat)) (pn : List (Option APend)) (pubs : List (List Nat)) (cks : List (Nat × List Nat)) : Prop where
  edge : ∀ i j, j ∈ after.getD i [] → j < i
  nodup : ∀ i, i < l.length → (wrs l pn pubs i).Nodup
  uniq : ∀ i j t, i < l.length → j < l.length → t ∈ wrs l pn pubs i → t ∈ wrs l pn pubs j → i = j
  rd : ∀ i t j, i < l.length → isP pn i = false → t ∈ (opAt l i).rd → j < l.length → t ∈ wrs l pn pubs j → Before after j i ∨ (t ∉ pubs.getD j [] ∧ Before after i j) ∨ i = j
  prd : ∀ i p t j, i < l.length → pn.getD i none = some p → t ∈ p.rd → j < l.length → t ∈ wrs l pn pubs j → Before after j i
  pdst : ∀ i p, i < l.length → pn.getD i none = some p → ∃ t, (opAt l i).dst = some t ∧ (∃ j, j < l.length ∧ t ∈ pubs.getD j [] ∧ Before after i j) ∧ ∀ j, j < l.length → isP pn j = true → (opAt l j).dst = some t → i = j
  pub : ∀ j t, j < l.length → t ∈ pubs.getD j [] → ∃ i p, i < l.length ∧ pn.getD i none = some p ∧ (opAt l i).dst = some t ∧ Before after i j
  chain : ∀ i j, i ∈ loudsOf l pn pubs → j ∈ loudsOf l pn pubs → i < j → Before after i j
  cks : ∀ i, i < l.length → heapyAt l pn pubs i = true → ∀ k, k ≤ (loudsOf l pn pubs).length → possible (reachL [] after) (loudsOf l pn pubs) i k = true →
    k = (loudsOf l pn pubs).countP (fun j => Nat.blt j i) ∨ ∃ c ∈ cks, c.1 = i ∧ ptOf (loudsOf l pn pubs) k ∈ c.2
theorem planOk_ok {l : List AOper} {after : List (List Nat)} {pn : List (Option APend)} {pubs : List (List Nat)} {cks : List (Nat × List Nat)} (h : planOk l after pn pubs cks = true) : Plan l after pn pubs cks := by
  have hR : ∀ i j, j ∈ (reachL [] after).getD i [] → Before after j i := reachL_ok after after [] rfl (fun i j hj => by simp at hj)
  have hR' : ∀ i j, ((reachL [] after).getD i []).contains j = true → Before after j i := fun i j q => hR i j (by simpa using q)
  simp only [planOk, Bool.and_eq_true] at h
  obtain ⟨⟨⟨⟨⟨⟨p1, p2⟩, p3⟩, p4⟩, p5⟩, p6⟩, p7⟩ := h
  simp only [List.all_eq_true, List.mem_range, Bool.or_eq_true, Bool.and_eq_true, Bool.not_eq_true', Nat.beq_eq] at p1 p2 p3 p4 p5 p6 p7
  refine ⟨fun i j hj => ?_, fun i hi => nodupB_ok (p2 i hi).1, fun i j t hi hj ti tj => ?_, fun i t j hi hq ht hj tj => ?_, fun i p t j hi hq ht hj tj => ?_, fun i p hi hq => ?_, fun j t hj ht => ?_, fun i j hi hj hij => ?_, fun i hi hh k hk hposs => ?_⟩
  · by_cases hi : i < after.length
    · have := p1 (after[i], i) (by rw [List.mem_iff_getElem?]; exact ⟨i, by simp [List.getElem?_zipIdx, hi]⟩) j (by simpa [List.getD_eq_getElem?_getD, hi] using hj)
      exact blt_iff.1 this
    · rw [List.getD_eq_getElem?_getD, List.getElem?_eq_none (by omega)] at hj
      simp at hj
  · rcases (p2 i hi).2 j hj with q | q
    · exact q
    · exact (disjB_ok q ti tj).elim
  · rcases p3 i hi with q | q
    · rw [hq] at q; cases q
    · rcases q t ht j hj with ((q | q) | q) | q
      · have : (wrs l pn pubs j).contains t = true := by simpa using tj
        rw [this] at q; cases q
      · exact .inl (hR' i j q)
      · exact .inr (.inl ⟨by simpa using q.1, hR' j i q.2⟩)
      · exact .inr (.inr q)
  · have := p4 i hi
    rw [hq] at this
    simp only [Bool.and_eq_true, List.all_eq_true, List.mem_range, Bool.or_eq_true, Bool.not_eq_true'] at this
    rcases this.1 t ht j hj with q | q
    · have : (wrs l pn pubs j).contains t = true := by simpa using tj
      rw [this] at q; cases q
    · exact hR' i j q
  · have := p4 i hi
    rw [hq] at this
    simp only [Bool.and_eq_true] at this
    have := this.2
    split at this
    · rename_i t ht
      simp only [Bool.and_eq_true, List.all_eq_true, List.any_eq_true, List.mem_range, Bool.or_eq_true, Bool.not_eq_true', Nat.beq_eq] at this
      obtain ⟨⟨j, hj, a, b⟩, c⟩ := this
      refine ⟨t, ht, ⟨j, hj, by simpa using a, hR' j i b⟩, fun j hj hp hd => ?_⟩
      rcases c j hj with (q | q) | q
      · exact q
      · rw [hp] at q; cases q
      · rw [hd] at q; simp [sameDst] at q
    · cases this
  · obtain ⟨i, hi, ⟨a, b⟩, c⟩ := by simpa only [List.any_eq_true, List.mem_range, Bool.and_eq_true] using p5 j hj t ht
    obtain ⟨p, hp⟩ := isP_true a
    exact ⟨i, p, hi, hp, sameDst_iff.1 b, hR' j i c⟩
  · rcases p6 i hi j hj with q | q
    · rw [blt_iff.2 hij] at q; cases q
    · exact hR' j i q
  · rcases p7 i hi with q | q
    · rw [hh] at q; cases q
    · rcases q k (by omega) with (q | q) | q
      · rw [hposs] at q; cases q
      · exact .inl q
      · simp only [List.any_eq_true, Bool.and_eq_true, Nat.beq_eq] at q
        obtain ⟨c, hc, a, b⟩ := q
        exact .inr ⟨c, hc, a, by simpa using b⟩
theorem mkOf_ok {l : List AOper} {after : List (List Nat)} {pn : List (Option APend)} {pubs : List (List Nat)} {cks : List (Nat × List Nat)} (h : Plan l after pn pubs cks) {i t : Nat} {p : APend} (hi : i < l.length) (hp : pn.getD i none = some p) (hd : (opAt l i).dst = some t) : mkOf l pn t = p := by
  unfold mkOf
  cases e : (List.range l.length).findSome? (fun i => if sameDst (opAt l i).dst (some t) then pn.getD i none else none) with
  | none =>
    rw [List.findSome?_eq_none_iff] at e
    have := e i (List.mem_range.2 hi)
    rw [hd] at this
    rw [if_pos (sameDst_iff.2 rfl), hp] at this
    cases this
  | some q =>
    obtain ⟨j, hj, e⟩ := List.exists_of_findSome?_eq_some e
    rw [List.mem_range] at hj
    split at e
    · rename_i hs
      have hdj := sameDst_iff.1 hs
      obtain ⟨t', ht', _, hu⟩ := h.pdst i p hi hp
      rw [hd] at ht'; cases ht'
      have := hu j hj (isP_some e) hdj
      subst this
      rw [hp] at e; cases e; rfl
    · cases e
theorem draw_ok {P : Program} {W0 : World} {go : GoE} (hgo : GoOk P W0 go) {l : List AOper} {after : List (List Nat)} {pn : List (Option APend)} {pubs : List (List Nat)} {cks : List (Nat × List Nat)} {s sf : Tr AV} {h hf : EH} {K : AS → AHeap → Prop}
    (hp : planOk l after pn pubs cks = true) (e : evDraw go (stepsOf l pn pubs) cks s h = some (sf, hf)) (k : K (mkS sf) hf.list) : awpAny P W0 l after pn pubs K l.length [] (mkS s) h.list := by
  unfold evDraw at e
  split at e
  rotate_left
  · cases e
  rename_i sf' tr ht
  obtain ⟨hck, e⟩ := sel_some e
  cases e
  obtain ⟨S, A, B, h0, hn, hl, hs⟩ := evT_fact ht
  have hsl : (stepsOf l pn pubs).length = l.length := by simp [stepsOf]
  rw [hsl] at hn hl
  have hst : ∀ i, i < l.length → stAt (stepsOf l pn pubs) i = ⟨(pubs.getD i []).map fun t => (t, mkOf l pn t), if isP pn i then none else some (opAt l i)⟩ := by
    intro i hi
    simp only [stAt, stepsOf, List.getD_eq_getElem?_getD, List.getElem?_map, List.getElem?_range hi, Option.map_some, Option.getD_some]
  have hpl := planOk_ok hp
  have hR : ∀ i j, j ∈ (reachL [] after).getD i [] → Before after j i := reachL_ok after after [] rfl (fun i j hj => by simp at hj)
  simp only [List.all_eq_true] at hck
  have hfst : ∀ i, ((pubs.getD i []).map fun t => (t, mkOf l pn t)).map (·.1) = pubs.getD i [] := fun i => by simp [List.map_map, Function.comp_def]
  have fpre : ∀ i, i < l.length → preE (S i) ((pubs.getD i []).map fun t => (t, mkOf l pn t)) (S i) (heapPt h tr i) = some (A i, B i) := fun i hi => by
    have := (hs i (by omega)).1
    rwa [hst i hi] at this
  have fop : ∀ i, i < l.length → isP pn i = false → (opAt l i).evE go (mkS (A i)) (B i) = some (valPt tr i, heapPt h tr (i + 1)) ∧ S (i + 1) = putO (A i) (opAt l i).dst (valPt tr i) := fun i hi q =>
    (hs i (by omega)).2.2.1 _ (by rw [hst i hi, q]; rfl)
  have fno : ∀ i, i < l.length → isP pn i = true → heapPt h tr (i + 1) = B i ∧ S (i + 1) = A i := fun i hi q =>
    (hs i (by omega)).2.2.2 (by rw [hst i hi, q]; rfl)
  have fA : ∀ i t, i < l.length → t ∉ pubs.getD i [] → (mkS (A i)).s t = (mkS (S i)).s t := fun i t hi q => preE_frame (fpre i hi) t (by rw [hfst]; exact q)
  have mw : ∀ i t, t ∈ wrs l pn pubs i ↔ (isP pn i = false ∧ (opAt l i).dst = some t) ∨ t ∈ pubs.getD i [] := by
    intro i t
    simp only [wrs, List.mem_append]
    cases q : isP pn i with
    | true => simp
    | false =>
      cases q2 : (opAt l i).dst with
      | none => simp
      | some u => simp [eq_comm]
  have keep : ∀ i t, i < l.length → t ∉ wrs l pn pubs i → (mkS (S (i + 1))).s t = (mkS (S i)).s t := by
    intro i t hi q
    have q2 : t ∉ pubs.getD i [] := fun z => q ((mw i t).2 (.inr z))
    cases qp : isP pn i with
    | true => rw [(fno i hi qp).2]; exact fA i t hi q2
    | false =>
      rw [(fop i hi qp).2, mkS_putO, set_ne (fun z => q ((mw i t).2 (.inl ⟨qp, z⟩)))]
      exact fA i t hi q2
  have Va : ∀ j t, j < l.length → t ∈ wrs l pn pubs j → ∀ i, j < i → i ≤ l.length → (mkS (S i)).s t = (mkS (S (j + 1))).s t := by
    intro j t hj ej i
    induction i with
    | zero => intro q; omega
    | succ i ih =>
      intro q1 q2
      by_cases q : i = j
      · subst q; rfl
      · rw [keep i t (by omega) (fun z => q (hpl.uniq i j t (by omega) hj z ej))]
        exact ih (by omega) (by omega)
  have Vb : ∀ t i, i ≤ l.length → (∀ j, j < i → t ∉ wrs l pn pubs j) → (mkS (S i)).s t = (mkS s).s t := by
    intro t i
    induction i with
    | zero => intro _ _; rw [h0]
    | succ i ih =>
      intro q ht'
      rw [keep i t (by omega) (ht' i (by omega))]
      exact ih (by omega) (fun j hj => ht' j (by omega))
  have quietB : ∀ i, i < l.length → pubs.getD i [] = [] → A i = S i ∧ B i = heapPt h tr i := by
    intro i hi q
    have := fpre i hi
    rw [q] at this
    simp only [List.map_nil, preE, Option.some.injEq, Prod.mk.injEq] at this
    exact ⟨this.1.symm, this.2.symm⟩
  have noLoud : ∀ i, sloud l pn pubs i = false → pubs.getD i [] = [] ∧ (isP pn i = false → (opAt l i).op.loud = false) := by
    intro i q
    simp only [sloud, Bool.or_eq_false_iff, Bool.and_eq_false_iff, Bool.not_eq_false', List.isEmpty_iff] at q
    refine ⟨q.2, fun z => ?_⟩
    rcases q.1 with y | y
    · rw [z] at y; cases y
    · exact y
  have quietH : ∀ i, i < l.length → sloud l pn pubs i = false → heapPt h tr (i + 1) = heapPt h tr i := by
    intro i hi q
    obtain ⟨q1, q2⟩ := noLoud i q
    obtain ⟨qa, qb⟩ := quietB i hi q1
    cases qp : isP pn i with
    | true => rw [(fno i hi qp).1, qb]
    | false =>
      have := (fop i hi qp).1
      rw [qb] at this
      exact AOper.quiet (q2 qp) this
  have lc_succ : ∀ i, ((List.range (i + 1)).filter fun i => sloud l pn pubs i).length = ((List.range i).filter fun i => sloud l pn pubs i).length + if sloud l pn pubs i then 1 else 0 := by
    intro i
    rw [List.range_succ, List.filter_append, List.length_append]
    congr 1
    simp only [List.filter_cons, List.filter_nil]
    split <;> rfl
  have hlat : ∀ i, i < l.length → sloud l pn pubs i = true → (loudsOf l pn pubs).getD (((List.range i).filter fun i => sloud l pn pubs i).length) 0 = i := by
    intro i hi hq
    rw [List.getD_eq_getElem?_getD, loudsOf, louds_at (fun i => sloud l pn pubs i) l.length i hi hq]; rfl
  have hb : ∀ i, i ≤ l.length → heapPt h tr i = heapPt h tr (ptOf (loudsOf l pn pubs) (((List.range i).filter fun i => sloud l pn pubs i).length)) := by
    intro i
    induction i with
    | zero => intro _; simp [ptOf]
    | succ i ih =>
      intro hi
      rw [lc_succ]
      cases q : sloud l pn pubs i with
      | true =>
        simp only [if_true, ptOf]
        rw [hlat i (by omega) q]
      | false =>
        simp only [Bool.false_eq_true, if_false, Nat.add_zero]
        rw [← ih (by omega)]
        exact quietH i (by omega) q
  have hllen : (loudsOf l pn pubs).length = ((List.range l.length).filter fun i => sloud l pn pubs i).length := rfl
  have hlm : ∀ q, q < (loudsOf l pn pubs).length → (loudsOf l pn pubs).getD q 0 < l.length ∧ sloud l pn pubs ((loudsOf l pn pubs).getD q 0) = true ∧ (loudsOf l pn pubs).getD q 0 ∈ loudsOf l pn pubs ∧ q = ((List.range ((loudsOf l pn pubs).getD q 0)).filter fun i => sloud l pn pubs i).length := by
    intro q hq
    have e1 : (loudsOf l pn pubs)[q]? = some ((loudsOf l pn pubs).getD q 0) := by
      rw [List.getD_eq_getElem?_getD, List.getElem?_eq_getElem hq]; rfl
    have hm := List.mem_of_getElem? e1
    have hm' := hm
    simp only [loudsOf, List.mem_filter, List.mem_range] at hm'
    exact ⟨hm'.1, hm'.2, hm, louds_lt (fun i => sloud l pn pubs i) l.length q _ e1 hm'.1⟩
  have pslot : ∀ u p t, u < l.length → pn.getD u none = some p → (opAt l u).dst = some t → ∃ j, j < l.length ∧ t ∈ pubs.getD j [] ∧ Before after u j := by
    intro u p t hu hq hd
    obtain ⟨t', ht', hj, _⟩ := hpl.pdst u p hu hq
    rw [hd] at ht'; cases ht'
    exact hj
  have main : ∀ (m : Nat) (done : List Nat) (st : AS) (H : AHeap), m + done.length = l.length → (∀ i ∈ done, i < l.length) → done.Nodup →
      (∀ i ∈ done, ∀ j ∈ after.getD i [], j ∈ done) → st.loc = (fun _ => none) →
      (∀ j ∈ done, ∀ t ∈ wrs l pn pubs j, st.s t = (mkS (S (j + 1))).s t) →
      (∀ t, (∀ j ∈ done, t ∉ wrs l pn pubs j) → (∀ u p, u < l.length → pn.getD u none = some p → (opAt l u).dst ≠ some t) → st.s t = (mkS s).s t) →
      (∀ u ∈ done, ∀ p t j, pn.getD u none = some p → (opAt l u).dst = some t → j < l.length → t ∈ pubs.getD j [] → j ∉ done → st.pnd t = p.obj (mkS (S j))) →
      (∀ t, st.pnd t ≠ none → ∃ u ∈ done, ∃ p, pn.getD u none = some p ∧ (opAt l u).dst = some t ∧ ∀ j, j < l.length → t ∈ pubs.getD j [] → j ∉ done) →
      (∃ c, c ≤ (loudsOf l pn pubs).length ∧ (∀ q, q < (loudsOf l pn pubs).length → ((loudsOf l pn pubs).getD q 0 ∈ done ↔ q < c)) ∧ H = (heapPt h tr (ptOf (loudsOf l pn pubs) c)).list) →
      awpAny P W0 l after pn pubs K m done st H := by
    intro m
    induction m with
    | zero =>
      intro done st H hlen hlt hnd hc hlo s1 s2 s3 s4 ⟨c, hcl, hcq, hH⟩
      have hall : ∀ i, i < l.length → i ∈ done := fun i hi => nodup_all done hnd l.length hlt (by omega) i hi
      have e1 : st = mkS (S l.length) := by
        have e2 : st.s = (mkS (S l.length)).s := by
          funext t
          by_cases q : ∃ j, j < l.length ∧ t ∈ wrs l pn pubs j
          · obtain ⟨j, hj, ej⟩ := q
            rw [s1 j (hall j hj) t ej, Va j t hj ej l.length hj (Nat.le_refl _)]
          · have q' : ∀ j, j < l.length → t ∉ wrs l pn pubs j := fun j hj z => q ⟨j, hj, z⟩
            rw [s2 t (fun j hj => q' j (hlt j hj)) (fun u p hu hq hd => by
              obtain ⟨j, hj, hjt, _⟩ := pslot u p t hu hq hd
              exact q' j hj ((mw j t).2 (.inr hjt))), Vb t l.length (Nat.le_refl _) q']
        have e3 : st.pnd = fun _ => none := by
          funext t
          cases q : st.pnd t with
          | none => rfl
          | some o =>
            obtain ⟨u, hu, p, hq, hd, hj⟩ := s4 t (by rw [q]; simp)
            obtain ⟨j, hj1, hj2, _⟩ := pslot u p t (hlt u hu) hq hd
            exact (hj j hj1 hj2 (hall j hj1)).elim
        rcases st with ⟨a, b, c⟩
        simp only at e2 e3 hlo
        rw [e2, hlo, e3]; rfl
      have ec : c = (loudsOf l pn pubs).length := by
        rcases Nat.lt_or_ge c (loudsOf l pn pubs).length with q | q
        · have := (hcq c q).1 (hall _ (hlm c q).1)
          omega
        · omega
      simp only [awpAny]
      rw [e1, hn, hH, ec, hllen, ← hb l.length (Nat.le_refl _), ← hl]
      exact k
    | succ m ih =>
      intro done st H hlen hlt hnd hc hlo s1 s2 s3 s4 ⟨c, hcl, hcq, hH⟩ i hi hr
      simp only [readyA, Bool.and_eq_true, Bool.not_eq_true', List.all_eq_true] at hr
      have hni : i ∉ done := by simpa using hr.1
      have hai : ∀ j ∈ after.getD i [], j ∈ done := fun j hj => by simpa using hr.2 j hj
      have bef : ∀ j, Before after j i → j ∈ done := fun j z => z.ready hc hai
      have aft : ∀ j, Before after i j → j ∉ done := fun j z y => hni (z.done hc y)
      -- what is owed after the step
      have next : ∀ st' H', st'.loc = (fun _ => none) → (∀ t ∈ wrs l pn pubs i, st'.s t = (mkS (S (i + 1))).s t ∧ st'.pnd t = none) →
          (∀ t, t ∉ wrs l pn pubs i → (∀ p, pn.getD i none = some p → (opAt l i).dst ≠ some t) → st'.s t = st.s t ∧ st'.pnd t = st.pnd t) →
          (∀ p t j, pn.getD i none = some p → (opAt l i).dst = some t → j < l.length → t ∈ pubs.getD j [] → st'.pnd t = p.obj (mkS (S j))) →
          (∃ c, c ≤ (loudsOf l pn pubs).length ∧ (∀ q, q < (loudsOf l pn pubs).length → ((loudsOf l pn pubs).getD q 0 ∈ i :: done ↔ q < c)) ∧ H' = (heapPt h tr (ptOf (loudsOf l pn pubs) c)).list) →
          awpAny P W0 l after pn pubs K m (i :: done) st' H' := by
        intro st' H' n1 n2 n3 n4 n5
        refine ih (i :: done) st' H' (by simp; omega) ?_ (List.nodup_cons.2 ⟨hni, hnd⟩) ?_ n1 ?_ ?_ ?_ ?_ n5
        · intro j hj
          rcases List.mem_cons.1 hj with rfl | hj
          · exact hi
          · exact hlt j hj
        · intro j hj u hu
          rcases List.mem_cons.1 hj with rfl | hj
          · exact List.mem_cons_of_mem _ (hai u hu)
          · exact List.mem_cons_of_mem _ (hc j hj u hu)
        · intro j hj t tj
          rcases List.mem_cons.1 hj with rfl | hj
          · exact (n2 t tj).1
          · rw [(n3 t (fun z => hni (hpl.uniq i j t hi (hlt j hj) z tj ▸ hj)) (fun p hq hd => ?_)).1]
            · exact s1 j hj t tj
            · obtain ⟨j2, hj2, ht2, hb2⟩ := pslot i p t hi hq hd
              have := hpl.uniq j j2 t (hlt j hj) hj2 tj ((mw j2 t).2 (.inr ht2))
              subst this
              exact aft j hb2 hj
        · intro t w1 w2
          rw [(n3 t (w1 i List.mem_cons_self) (fun p hq => w2 i p hi hq)).1]
          exact s2 t (fun j hj => w1 j (List.mem_cons_of_mem _ hj)) w2
        · intro u hu p t j hq hd hj tj hjn
          have hjn1 : j ≠ i := fun z => hjn (z ▸ List.mem_cons_self)
          have hjn2 : j ∉ done := fun z => hjn (List.mem_cons_of_mem _ z)
          rcases List.mem_cons.1 hu with rfl | hu
          · exact n4 p t j hq hd hj tj
          · rw [(n3 t (fun z => hjn1 (hpl.uniq j i t hj hi ((mw j t).2 (.inr tj)) z)) (fun p2 hq2 hd2 => ?_)).2]
            · exact s3 u hu p t j hq hd hj tj hjn2
            · obtain ⟨t3, ht3, _, hun⟩ := hpl.pdst i p2 hi hq2
              rw [hd2] at ht3; cases ht3
              exact hni (hun u (hlt u hu) (isP_some hq) hd ▸ hu)
        · intro t ht'
          have w1 : t ∉ wrs l pn pubs i := fun z => ht' (n2 t z).2
          by_cases q : ∃ p, pn.getD i none = some p ∧ (opAt l i).dst = some t
          · obtain ⟨p, hq, hd⟩ := q
            refine ⟨i, List.mem_cons_self, p, hq, hd, fun j hj tj hjd => ?_⟩
            rcases List.mem_cons.1 hjd with rfl | hjd
            · exact w1 ((mw j t).2 (.inr tj))
            · obtain ⟨j2, hj2, ht2, hb2⟩ := pslot i p t hi hq hd
              have := hpl.uniq j j2 t hj hj2 ((mw j t).2 (.inr tj)) ((mw j2 t).2 (.inr ht2))
              subst this
              exact aft j hb2 hjd
          · rw [(n3 t w1 (fun p hq hd => q ⟨p, hq, hd⟩)).2] at ht'
            obtain ⟨u, hu, p, hq, hd, hj⟩ := s4 t ht'
            refine ⟨u, List.mem_cons_of_mem _ hu, p, hq, hd, fun j hj1 tj hjd => ?_⟩
            rcases List.mem_cons.1 hjd with rfl | hjd
            · exact w1 ((mw j t).2 (.inr tj))
            · exact hj j hj1 tj hjd
      have agree : isP pn i = false → ∀ t ∈ (opAt l i).rd, (pubAS (pubs.getD i []) (mkS (A i)).s st).s t = (mkS (A i)).s t := by
        intro qp t ht'
        simp only [pubAS]
        split
        · rfl
        rename_i tn
        rw [fA i t hi tn]
        have free : (∀ j, j < l.length → t ∈ pubs.getD j [] → False) → ∀ u p, u < l.length → pn.getD u none = some p → (opAt l u).dst ≠ some t := fun z u p hu hq hd => by
          obtain ⟨j, hj, hjt, _⟩ := pslot u p t hu hq hd
          exact z j hj hjt
        by_cases q : ∃ j, j < l.length ∧ t ∈ wrs l pn pubs j
        · obtain ⟨j, hj, ej⟩ := q
          have none' : i ≤ j → j ∉ done → t ∉ pubs.getD j [] → st.s t = (mkS (S i)).s t := by
            intro hij hnd' hnp
            rw [s2 t (fun u hu eu => hnd' (hpl.uniq u j t (hlt u hu) hj eu ej ▸ hu)) (free fun j2 hj2 ht2 => hnp (hpl.uniq j2 j t hj2 hj ((mw j2 t).2 (.inr ht2)) ej ▸ ht2)),
              Vb t i (by omega) (fun u hu eu => by have := hpl.uniq u j t (by omega) hj eu ej; omega)]
          rcases hpl.rd i t j hi qp ht' hj ej with z | ⟨z1, z⟩ | z
          · rw [s1 j (bef j z) t ej, Va j t hj ej i (z.lt hpl.edge) (by omega)]
          · exact none' (Nat.le_of_lt (z.lt hpl.edge)) (aft j z) z1
          · subst z; exact none' (Nat.le_refl _) hni tn
        · have q' : ∀ j, j < l.length → t ∉ wrs l pn pubs j := fun j hj z => q ⟨j, hj, z⟩
          rw [s2 t (fun j hj => q' j (hlt j hj)) (free fun j hj z => q' j hj ((mw j t).2 (.inr z))), Vb t i (by omega) (fun j hj => q' j (by omega))]
      have finN : isP pn i = false → ∀ h2 h3, (opAt l i).evE go (mkS (A i)) h2 = some (valPt tr i, h3) →
          (∃ c, c ≤ (loudsOf l pn pubs).length ∧ (∀ q, q < (loudsOf l pn pubs).length → ((loudsOf l pn pubs).getD q 0 ∈ i :: done ↔ q < c)) ∧ h3.list = (heapPt h tr (ptOf (loudsOf l pn pubs) c)).list) →
          (opAt l i).wp P W0 (awpAny P W0 l after pn pubs K m (i :: done)) (pubAS (pubs.getD i []) (mkS (A i)).s st) h2.list := by
        intro qp h2 h3 e2 hk2
        rw [← AOper.evE_congr (agree qp)] at e2
        refine AOper.evE_ok hgo e2 ?_
        refine next _ _ (by rw [set_loc]; exact hlo) (fun t tw => ?_) (fun t tw _ => ?_) (fun p t j hq => by rw [isP_none qp] at hq; cases hq) hk2
        · rw [(fop i hi qp).2, mkS_putO]
          by_cases q : (opAt l i).dst = some t
          · rw [q]; simp [AS.set]
          · have tp : t ∈ pubs.getD i [] := by
              rcases (mw i t).1 tw with z | z
              · exact absurd z.2 q
              · exact z
            rw [set_ne q, set_ne q]
            refine ⟨by simp only [pubAS, if_pos tp], ?_⟩
            have : ∀ (st : AS) (d : Option Nat) (x : AV), st.pnd t = none → (st.set d x).pnd t = none := fun st d x z => by
              cases d with
              | none => exact z
              | some u => simp only [AS.set]; split <;> first | rfl | exact z
            exact this _ _ _ (by simp only [pubAS, if_pos tp])
        · have q : (opAt l i).dst ≠ some t := fun z => tw ((mw i t).2 (.inl ⟨qp, z⟩))
          have tp : t ∉ pubs.getD i [] := fun z => tw ((mw i t).2 (.inr z))
          rw [set_ne q]
          refine ⟨by simp only [pubAS, if_neg tp], ?_⟩
          have : ∀ (st : AS) (d : Option Nat) (x : AV), d ≠ some t → (st.set d x).pnd t = st.pnd t := fun st d x z => by
            cases d with
            | none => rfl
            | some u => simp only [AS.set]; rw [if_neg (fun y => z (by rw [y]))]
          rw [this _ _ _ q]
          simp only [pubAS, if_neg tp]
      have finP : ∀ p t0, pn.getD i none = some p → (opAt l i).dst = some t0 → ∀ H1,
          (∃ c, c ≤ (loudsOf l pn pubs).length ∧ (∀ q, q < (loudsOf l pn pubs).length → ((loudsOf l pn pubs).getD q 0 ∈ i :: done ↔ q < c)) ∧ H1 = (heapPt h tr (ptOf (loudsOf l pn pubs) c)).list) →
          p.wp t0 (awpAny P W0 l after pn pubs K m (i :: done)) (pubAS (pubs.getD i []) (mkS (A i)).s st) H1 := by
        intro p t0 hq hd H1 hk2
        obtain ⟨j0, hj0, ht0, hb0⟩ := pslot i p t0 hi hq hd
        have hij : i < j0 := hb0.lt hpl.edge
        have hob : p.obj (pubAS (pubs.getD i []) (mkS (A i)).s st) = p.obj (mkS (S j0)) := by
          refine APend.obj_congr fun t ht' => ?_
          have tn : t ∉ pubs.getD i [] := fun z => by
            have := (hpl.prd i p t i hi hq ht' hi ((mw i t).2 (.inr z))).lt hpl.edge
            omega
          simp only [pubAS, if_neg tn]
          by_cases q : ∃ j, j < l.length ∧ t ∈ wrs l pn pubs j
          · obtain ⟨j, hj, ej⟩ := q
            have z := hpl.prd i p t j hi hq ht' hj ej
            have := z.lt hpl.edge
            rw [s1 j (bef j z) t ej, Va j t hj ej j0 (by omega) (by omega)]
          · have q' : ∀ j, j < l.length → t ∉ wrs l pn pubs j := fun j hj z => q ⟨j, hj, z⟩
            rw [s2 t (fun j hj => q' j (hlt j hj)) (fun u p hu hq hd => by
              obtain ⟨j, hj, hjt, _⟩ := pslot u p t hu hq hd
              exact q' j hj ((mw j t).2 (.inr hjt))), Vb t j0 (by omega) (fun j hj => q' j (by omega))]
        obtain ⟨o, ho⟩ := preE_obj (fpre j0 hj0) (t0, mkOf l pn t0) (List.mem_map.2 ⟨t0, ht0, rfl⟩)
        rw [mkOf_ok hpl hi hq hd] at ho
        simp only at ho
        unfold APend.wp
        rw [hob, ho]
        have ne0 : ∀ t, t ∈ pubs.getD i [] → t ≠ t0 := fun t tp z => by
          subst z
          have := hpl.uniq i j0 t hi hj0 ((mw i t).2 (.inr tp)) ((mw j0 t).2 (.inr ht0))
          omega
        refine next _ _ hlo (fun t tw => ?_) (fun t tw tq => ?_) (fun p' t j hq' hd' hj tj => ?_) hk2
        · have tp : t ∈ pubs.getD i [] := by
            rcases (mw i t).1 tw with z | z
            · rw [isP_some hq] at z; cases z.1
            · exact z
          rw [(fno i hi (isP_some hq)).2]
          simp only [AS.pend, if_neg (ne0 t tp), pubAS, if_pos tp, and_self]
        · have tp : t ∉ pubs.getD i [] := fun z => tw ((mw i t).2 (.inr z))
          have tz : t ≠ t0 := fun z => tq p hq (z ▸ hd)
          simp only [AS.pend, if_neg tz, pubAS, if_neg tp, and_self]
        · rw [hq] at hq'; cases hq'
          rw [hd] at hd'; cases hd'
          have := hpl.uniq j j0 t0 hj hj0 ((mw j t0).2 (.inr tj)) ((mw j0 t0).2 (.inr ht0))
          subst this
          simp only [AS.pend, if_true, ho]
      have step : ∀ H1, pubWp (pubs.getD i []) (fun st H => match pn.getD i none, (l.getD i default).dst with
          | some p, some t => p.wp t (awpAny P W0 l after pn pubs K m (i :: done)) st H
          | some _, none => False
          | none, _ => (l.getD i default).wp P W0 (awpAny P W0 l after pn pubs K m (i :: done)) st H) st H1 → H1 = H → stepWp P W0 l pn pubs i (awpAny P W0 l after pn pubs K m (i :: done)) st H := fun H1 z e => e ▸ z
      cases hq : sloud l pn pubs i with
      | true =>
        have hil : i ∈ loudsOf l pn pubs := by simp only [loudsOf, List.mem_filter, List.mem_range]; exact ⟨hi, hq⟩
        have hat := hlat i hi hq
        have hlcl : ((List.range i).filter fun i => sloud l pn pubs i).length < (loudsOf l pn pubs).length := by
          have := louds_at (fun i => sloud l pn pubs i) l.length i hi hq
          exact (List.getElem?_eq_some_iff.1 this).1
        have ec : c = ((List.range i).filter fun i => sloud l pn pubs i).length := by
          refine Nat.le_antisymm ?_ ?_
          · refine Classical.byContradiction fun q => hni ?_
            have := (hcq _ hlcl).2 (by omega)
            rwa [hat] at this
          · refine Classical.byContradiction fun q => ?_
            have hc2 : c < (loudsOf l pn pubs).length := by omega
            obtain ⟨z1, z2, z3, z4⟩ := hlm c hc2
            have hlt2 : (loudsOf l pn pubs).getD c 0 < i := by
              refine Classical.byContradiction fun z => ?_
              have : ((List.range i).filter fun i => sloud l pn pubs i).length ≤ ((List.range ((loudsOf l pn pubs).getD c 0)).filter fun i => sloud l pn pubs i).length := by
                refine List.Sublist.length_le (List.Sublist.filter _ ?_)
                exact List.range_sublist.2 (by omega)
              omega
            have := bef _ (hpl.chain _ _ z3 hil hlt2)
            have := (hcq c hc2).1 this
            omega
        have hk2 : ∃ c', c' ≤ (loudsOf l pn pubs).length ∧ (∀ q, q < (loudsOf l pn pubs).length → ((loudsOf l pn pubs).getD q 0 ∈ i :: done ↔ q < c')) ∧ (heapPt h tr (i + 1)).list = (heapPt h tr (ptOf (loudsOf l pn pubs) c')).list := by
          refine ⟨c + 1, by omega, fun q hq2 => ?_, ?_⟩
          · rw [List.mem_cons]
            constructor
            · rintro (z | z)
              · obtain ⟨_, _, _, z4⟩ := hlm q hq2
                rw [z] at z4; omega
              · have := (hcq q hq2).1 z; omega
            · intro z
              by_cases z2 : q = c
              · left; rw [z2, ec]; exact hat
              · right; exact (hcq q hq2).2 (by omega)
          · simp only [ptOf]
            rw [ec, hat]
        refine step (heapPt h tr i).list ?_ (by rw [hH, ec, ← hb i (by omega)])
        have run := fun K' z => preE_run (K := K') (st := st) (fpre i hi) (by
          rw [hfst]
          have := hpl.nodup i hi
          exact (List.nodup_append.1 this).2.1) (fun x hx => by
          obtain ⟨t, tp, rfl⟩ := List.mem_map.1 hx
          obtain ⟨u, p, hu, hqu, hdu, hbu⟩ := hpl.pub i t hi tp
          simp only [mkOf_ok hpl hu hqu hdu]
          exact s3 u (bef u hbu) p t i hqu hdu hi tp hni) z
        rw [hfst] at run
        refine run _ ?_
        show match pn.getD i none, (opAt l i).dst with
          | some p, some t => p.wp t (awpAny P W0 l after pn pubs K m (i :: done)) _ _
          | some _, none => False
          | none, _ => (opAt l i).wp P W0 (awpAny P W0 l after pn pubs K m (i :: done)) _ _
        cases qp : isP pn i with
        | true =>
          obtain ⟨p, hpi⟩ := isP_true qp
          obtain ⟨t0, ht0, _⟩ := hpl.pdst i p hi hpi
          rw [hpi, ht0]
          refine finP p t0 hpi ht0 _ ?_
          rw [(fno i hi qp).1] at hk2
          exact hk2
        | false =>
          rw [isP_none qp]
          exact finN qp _ _ (fop i hi qp).1 hk2
      | false =>
        obtain ⟨qe, ql⟩ := noLoud i hq
        obtain ⟨qA, qB⟩ := quietB i hi qe
        have hk2 : ∃ c', c' ≤ (loudsOf l pn pubs).length ∧ (∀ q, q < (loudsOf l pn pubs).length → ((loudsOf l pn pubs).getD q 0 ∈ i :: done ↔ q < c')) ∧ (heapPt h tr (ptOf (loudsOf l pn pubs) c)).list = (heapPt h tr (ptOf (loudsOf l pn pubs) c')).list := by
          refine ⟨c, hcl, fun q hq2 => ?_, rfl⟩
          rw [List.mem_cons, ← hcq q hq2]
          constructor
          · rintro (z | z)
            · have := (hlm q hq2).2.1
              rw [z, hq] at this; cases this
            · exact z
          · exact .inr
        refine step _ ?_ hH.symm
        have e0 : pubAS (pubs.getD i []) (mkS (A i)).s st = st := by rw [qe]; simp [pubAS]
        rw [e0] at finN finP
        rw [qe]
        show match pn.getD i none, (opAt l i).dst with
          | some p, some t => p.wp t (awpAny P W0 l after pn pubs K m (i :: done)) _ _
          | some _, none => False
          | none, _ => (opAt l i).wp P W0 (awpAny P W0 l after pn pubs K m (i :: done)) _ _
        cases qp : isP pn i with
        | true =>
          obtain ⟨p, hpi⟩ := isP_true qp
          obtain ⟨t0, ht0, _⟩ := hpl.pdst i p hi hpi
          rw [hpi, ht0]
          exact finP p t0 hpi ht0 _ hk2
        | false =>
          rw [isP_none qp]
          refine finN qp _ _ ?_ hk2
          have base := (fop i hi qp).1
          rw [qB] at base
          cases hy : (opAt l i).op.heapy with
          | false => exact AOper.free (ql qp) hy base _
          | true =>
            have hposs : possible (reachL [] after) (loudsOf l pn pubs) i c = true := by
              simp only [possible, List.all_eq_true, List.mem_range, Bool.and_eq_true, Bool.or_eq_true, Bool.not_eq_true']
              intro q hq2
              refine ⟨?_, ?_⟩
              · by_cases z : (loudsOf l pn pubs).getD q 0 ∈ (reachL [] after).getD i []
                · right
                  exact blt_iff.2 ((hcq q hq2).1 (bef _ (hR _ _ z)))
                · left; simpa using z
              · by_cases z : q < c
                · right
                  have h1 := (hcq q hq2).2 z
                  have : i ∉ (reachL [] after).getD ((loudsOf l pn pubs).getD q 0) [] := fun y => aft _ (hR _ _ y) h1
                  simpa using this
                · left
                  cases zz : Nat.blt q c with
                  | false => rfl
                  | true => exact absurd (blt_iff.1 zz) z
            rcases hpl.cks i hi (by simp [heapyAt, qp, hq, hy]) c hcl hposs with z | ⟨x, hx, z1, z2⟩
            · have e2 := count_range (fun i => sloud l pn pubs i) l.length i (by omega)
              have e3 : c = ((List.range i).filter fun i => sloud l pn pubs i).length := by rw [z]; exact e2
              have e5 : heapPt h tr (i + 1) = heapPt h tr i := AOper.quiet (ql qp) base
              rw [e3, ← hb i (by omega)]
              rw [e5] at base
              exact base
            · have e2 := hck x hx (ptOf (loudsOf l pn pubs) c) z2
              rw [z1, ckAt, hst i hi, qp] at e2
              simp only [Bool.false_eq_true, if_false] at e2
              split at e2
              · rename_i v' h' e3
                rw [(hs i (by omega)).2.1] at e3
                have e4 := AOper.quiet (ql qp) e3
                rw [sameF_eq _ _ _ e2] at e3
                rw [e4] at e3
                exact e3
              · cases e2
  refine main l.length [] (mkS s) h.list (by simp) (by simp) (by simp) (by simp) rfl (by simp) (fun t _ _ => rfl) (by simp) (fun t ht' => absurd rfl ht') ⟨0, by omega, fun q _ => by simp, by simp only [ptOf, heapPt_zero]⟩
end Go.Qa
