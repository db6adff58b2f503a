/- The abstract machine: operations whose order is left open, with calls whose answers are told by their contracts: one order tells of all. -/
import Derived.Test.YtnaahdcahghldaaGreatDoorQs7
set_option linter.all false
namespace Go.Qa
open Go Go.RowKit

/-! ### Another order of a region's operations -/
def posOf (ord : List Nat) (i : Nat) : Nat := ord.findIdx (Nat.beq i)
def permL (ord : List Nat) (l : List AOper) : List AOper := ord.map (opAt l)
def permA (ord : List Nat) (after : List (List Nat)) : List (List Nat) := ord.map fun i => (after.getD i []).map (posOf ord)
def permP (ord : List Nat) (pn : List (Option APend)) : List (Option APend) := ord.map fun i => pn.getD i none
def permB (ord : List Nat) (pubs : List (List Nat)) : List (List Nat) := ord.map fun i => pubs.getD i []
def permOk (ord : List Nat) (n : Nat) (after : List (List Nat)) : Bool :=
  Nat.beq ord.length n && ord.all (fun i => Nat.blt i n) && nodupB ord && (List.range n).all (fun i => Nat.blt (posOf ord i) n && Nat.beq (ord.getD (posOf ord i) n) i) && after.all fun a => a.all fun j => Nat.blt j n
/-- What is quiet goes first. -/
def qfNext (n : Nat) (after : List (List Nat)) (loud : Nat → Bool) (done : List Nat) : Option Nat :=
  match (List.range n).find? fun i => !memB i done && (after.getD i []).all (fun j => memB j done) && !loud i with
  | some i => some i
  | none => (List.range n).find? fun i => !memB i done && (after.getD i []).all fun j => memB j done
def qfOrd (n : Nat) (after : List (List Nat)) (loud : Nat → Bool) : Nat → List Nat → List Nat
  | 0, done => done.reverse
  | m + 1, done => match qfNext n after loud done with
    | some i => qfOrd n after loud m (i :: done)
    | none => done.reverse
section
variable {P : Program} {W0 : World}
theorem perm_get {ord : List Nat} {n : Nat} {after : List (List Nat)} (h : permOk ord n after = true) {i : Nat} (hi : i < n) : posOf ord i < ord.length ∧ ord[posOf ord i]? = some i := by
  simp only [permOk, Bool.and_eq_true, Nat.beq_eq, List.all_eq_true, List.mem_range] at h
  obtain ⟨⟨⟨⟨h1, _⟩, _⟩, h2⟩, _⟩ := h
  obtain ⟨a, b⟩ := h2 i hi
  have hl : posOf ord i < ord.length := by rw [h1]; exact blt_iff.1 a
  refine ⟨hl, ?_⟩
  rw [List.getD_eq_getElem?_getD, List.getElem?_eq_getElem hl] at b
  rw [List.getElem?_eq_getElem hl]
  simpa using b
theorem perm_inj {ord : List Nat} {n : Nat} {after : List (List Nat)} (h : permOk ord n after = true) {i j : Nat} (hi : i < n) (hj : j < n) (e : posOf ord i = posOf ord j) : i = j := by
  have a := (perm_get h hi).2
  have b := (perm_get h hj).2
  rw [e, b] at a
  exact (Option.some.inj a).symm
theorem perm_pos {ord : List Nat} {n : Nat} {after : List (List Nat)} (h : permOk ord n after = true) {p : Nat} (hp : p < n) : ∃ i, i < n ∧ posOf ord i = p := by
  have h0 := h
  simp only [permOk, Bool.and_eq_true, Nat.beq_eq, List.all_eq_true, List.mem_range] at h
  obtain ⟨⟨⟨⟨h1, h2⟩, h3⟩, _⟩, _⟩ := h
  have hl : p < ord.length := by omega
  have hi : ord[p] < n := blt_iff.1 (h2 _ (List.getElem_mem hl))
  refine ⟨ord[p], hi, ?_⟩
  obtain ⟨a, b⟩ := perm_get h0 hi
  rw [List.getElem?_eq_getElem a] at b
  exact (List.getElem_inj (nodupB_ok h3)).1 (Option.some.inj b)
theorem perm_ready {ord : List Nat} {n : Nat} {after : List (List Nat)} (h : permOk ord n after = true) {done : List Nat} (hd : ∀ i ∈ done, i < n) {i : Nat} (hi : i < n) : readyA (permA ord after) (done.map (posOf ord)) (posOf ord i) = readyA after done i := by
  obtain ⟨a, b⟩ := perm_get h hi
  have hm : ∀ j, j < n → (done.map (posOf ord)).contains (posOf ord j) = done.contains j := by
    intro j hj
    rw [Bool.eq_iff_iff]
    simp only [List.contains_iff_mem, List.mem_map]
    constructor
    · rintro ⟨k, hk, e⟩
      exact perm_inj h (hd k hk) hj e ▸ hk
    · exact fun q => ⟨j, q, rfl⟩
  have hg : (permA ord after).getD (posOf ord i) [] = (after.getD i []).map (posOf ord) := by
    simp only [permA, List.getD_eq_getElem?_getD, List.getElem?_map, b, Option.map_some, Option.getD_some]
  have haf : ∀ j ∈ after.getD i [], j < n := by
    intro j hj
    simp only [permOk, Bool.and_eq_true, List.all_eq_true] at h
    rw [List.getD_eq_getElem?_getD] at hj
    cases q : after[i]? with
    | none => rw [q] at hj; simp at hj
    | some l =>
      rw [q] at hj
      exact blt_iff.1 (h.2 l (List.mem_of_getElem? q) j hj)
  simp only [readyA, hg, hm i hi, List.all_map, Function.comp_def]
  congr 1
  rw [Bool.eq_iff_iff, List.all_eq_true, List.all_eq_true]
  exact ⟨fun q j hj => by rw [← hm j (haf j hj)]; exact q j hj, fun q j hj => by rw [hm j (haf j hj)]; exact q j hj⟩
theorem perm_step {ord : List Nat} {l : List AOper} {after : List (List Nat)} {pn : List (Option APend)} {pubs : List (List Nat)} (h : permOk ord l.length after = true) {i : Nat} (hi : i < l.length) (K : AS → AHeap → Prop) (st : AS) (H : AHeap) :
    stepWp P W0 (permL ord l) (permP ord pn) (permB ord pubs) (posOf ord i) K st H = stepWp P W0 l pn pubs i K st H := by
  obtain ⟨a, b⟩ := perm_get h hi
  have e1 : (permL ord l).getD (posOf ord i) default = l.getD i default := by
    simp only [permL, List.getD_eq_getElem?_getD, List.getElem?_map, b, Option.map_some, Option.getD_some, opAt]
  have e2 : (permP ord pn).getD (posOf ord i) none = pn.getD i none := by
    simp only [permP, List.getD_eq_getElem?_getD, List.getElem?_map, b, Option.map_some, Option.getD_some]
  have e3 : (permB ord pubs).getD (posOf ord i) [] = pubs.getD i [] := by
    simp only [permB, List.getD_eq_getElem?_getD, List.getElem?_map, b, Option.map_some, Option.getD_some]
  simp only [stepWp, e1, e2, e3]
theorem perm_any {ord : List Nat} {l : List AOper} {after : List (List Nat)} {pn : List (Option APend)} {pubs : List (List Nat)} (h : permOk ord l.length after = true) (K : AS → AHeap → Prop) :
    ∀ (m : Nat) (done : List Nat), (∀ i ∈ done, i < l.length) → awpAny P W0 (permL ord l) (permA ord after) (permP ord pn) (permB ord pubs) K m (done.map (posOf ord)) = awpAny P W0 l after pn pubs K m done := by
  have hlen : (permL ord l).length = l.length := by
    simp only [permOk, Bool.and_eq_true, Nat.beq_eq] at h
    simp [permL, h.1.1.1.1]
  intro m
  induction m with
  | zero => intro done hd; rfl
  | succ m ih =>
    intro done hd
    have step : ∀ i, i < l.length → awpAny P W0 (permL ord l) (permA ord after) (permP ord pn) (permB ord pubs) K m (posOf ord i :: done.map (posOf ord)) = awpAny P W0 l after pn pubs K m (i :: done) := fun i hi => by
      have := ih (i :: done) (fun j hj => by rcases List.mem_cons.1 hj with rfl | hj <;> first | exact hi | exact hd j hj)
      rwa [List.map_cons] at this
    funext st H
    simp only [awpAny]
    apply propext
    constructor
    · intro q i hi hr
      have := q (posOf ord i) (by rw [hlen]; have := (perm_get h hi).1; simp only [permOk, Bool.and_eq_true, Nat.beq_eq] at h; omega) (by rw [perm_ready h hd hi]; exact hr)
      rw [perm_step h hi, step i hi] at this
      exact this
    · intro q p hp hr
      rw [hlen] at hp
      obtain ⟨i, hi, rfl⟩ := perm_pos h hp
      rw [perm_ready h hd hi] at hr
      rw [perm_step h hi, step i hi]
      exact q i hi hr
end

/-! ### The run, with checks -/
/-- It answers the same at another heap. -/
noncomputable def opCk (o : AOp) (s : Tr AV) (h : EH) (v : AV) : Prop :=
  match o with
  | .pu e => optP ((e.sub s).evE S0 h) fun v' => v' = v
  | .px e => optP ((e.sub s).evE S0 h) fun v' => v' = v
  | .ef _ => False
noncomputable def operCk (o : AOper) (s : Tr AV) (h : EH) (v : AV) : Prop :=
  match o.guard with
  | none => opCk o.op s h v
  | some (t, w) => condG (gv s (.t t)) w (opCk o.op s h v) (v = .pl undef)
abbrev Evs := List (Nat × AOper × Tr AV × AV)
def hasCk (cks : List (Nat × List Nat)) (i p : Nat) : Bool := cks.any fun c => Nat.beq c.1 i && memB p c.2
def keyCk (cks : List (Nat × List Nat)) (i : Nat) : Bool := cks.any fun c => Nat.beq c.1 i
noncomputable def cksP (cks : List (Nat × List Nat)) (p : Nat) (h : EH) : Evs → Prop → Prop
  | [], k => k
  | (i, o, s, v) :: r, k => match hasCk cks i p with
    | true => operCk o s h v ∧ cksP cks p h r k
    | false => cksP cks p h r k
structure QStep where
  pre : List (Nat × APend)
  pend : Option APend
  op : AOper
  deriving Inhabited
def qsteps (l : List AOper) (pn : List (Option APend)) (pubs : List (List Nat)) : List QStep :=
  (List.range l.length).map fun i => ⟨(pubs.getD i []).map fun t => (t, mkOf l pn t), pn.getD i none, opAt l i⟩
noncomputable def pendP (p : APend) (s : Tr AV) (k : Prop) : Prop :=
  match p with
  | .cells _ => k
  | .map => k
  | p => optP (p.obj (mkS s)) fun _ => k
/-- What is taken up, not made plain. -/
noncomputable def preC (s0 : Tr AV) : List (Nat × APend) → Tr AV → EH → (Tr AV → EH → Prop) → Prop
  | [], s, h, k => k s h
  | (t, p) :: r, s, h, k => optP (p.obj (mkS s0)) fun o => preC s0 r (s.put t (o.av h.n)) (h.push o.obj) k
theorem preC_ok {s0 : Tr AV} : ∀ {l : List (Nat × APend)} {s : Tr AV} {h : EH} {k : Tr AV → EH → Prop}, preC s0 l s h k → ∃ s1 h1, preE s0 l s h = some (s1, h1) ∧ k s1 h1
  | [], s, h, k, e => ⟨s, h, rfl, e⟩
  | (t, p) :: r, s, h, k, e => by
    simp only [preC] at e
    obtain ⟨o, ho, e⟩ := optP_elim e
    obtain ⟨s1, h1, e1, e2⟩ := preC_ok e
    exact ⟨s1, h1, by simp only [preE, ho, fAV_eq, fEH_eq, Tr.putK_eq]; exact e1, e2⟩
theorem preC_of {s0 : Tr AV} : ∀ {l : List (Nat × APend)} {s s1 : Tr AV} {h h1 : EH} {k : Tr AV → EH → Prop}, preE s0 l s h = some (s1, h1) → k s1 h1 → preC s0 l s h k
  | [], s, s1, h, h1, k, e, q => by cases e; exact q
  | (t, p) :: r, s, s1, h, h1, k, e, q => by
    simp only [preE, fAV_eq, fEH_eq, Tr.putK_eq] at e
    split at e
    · rename_i o ho
      simp only [preC, ho, optP_some]
      exact preC_of e q
    · cases e
section
variable (P : Program) (W0 : World)
noncomputable def drawC (cks : List (Nat × List Nat)) : Nat → List QStep → Evs → (Tr AV → EH → Prop) → Tr AV → EH → Prop
  | p, [], ev, k, s, h => k s h
  | p, d :: r, ev, k, s, h => preC s d.pre s h fun s1 h1 => match d.pend with
    | some q => pendP q s1 (cksP cks (p + 1) h1 ev (drawC cks (p + 1) r ev k s1 h1))
    | none => operJ P W0 d.op s1 h1 fun v h' => cksP cks (p + 1) h' ev (drawC cks (p + 1) r (match keyCk cks p with | true => (p, d.op, s1, v) :: ev | false => ev) k (putO s1 d.op.dst v) h')
end
/-- All that a region is, in an order in which what is quiet goes first. -/
structure DPlan where
  l : List AOper
  after : List (List Nat)
  pn : List (Option APend)
  pubs : List (List Nat)
def dOrd (l : List AOper) (after : List (List Nat)) (pn : List (Option APend)) (pubs : List (List Nat)) : List Nat := qfOrd l.length after (fun i => sloud l pn pubs i) l.length []
def dPlan (l : List AOper) (after : List (List Nat)) (pn : List (Option APend)) (pubs : List (List Nat)) : DPlan :=
  let ord := dOrd l after pn pubs
  ⟨permL ord l, permA ord after, permP ord pn, permB ord pubs⟩
def DPlan.cks (d : DPlan) : List (Nat × List Nat) := cksOf d.l d.after d.pn d.pubs
def DPlan.steps (d : DPlan) : List QStep := qsteps d.l d.pn d.pubs
/-- What is quiet and stands behind something loud waits for it. -/
def DPlan.first (d : DPlan) : Bool :=
  let R := reachL [] d.after
  (List.range d.l.length).all fun i => sloud d.l d.pn d.pubs i || (List.range i).all fun j => !sloud d.l d.pn d.pubs j || (R.getD i []).contains j
def dOk (l : List AOper) (after : List (List Nat)) (pn : List (Option APend)) (pubs : List (List Nat)) : Bool :=
  permOk (dOrd l after pn pubs) l.length after && (let d := dPlan l after pn pubs; planOk d.l d.after d.pn d.pubs d.cks && d.first)

theorem cksP_ok {cks : List (Nat × List Nat)} {p : Nat} {h : EH} {k : Prop} : ∀ {ev : Evs}, cksP cks p h ev k → k ∧ ∀ i o s v, (i, o, s, v) ∈ ev → hasCk cks i p = true → operCk o s h v
  | [], e => ⟨e, fun _ _ _ _ q => by simp at q⟩
  | (i, o, s, v) :: r, e => by
    simp only [cksP] at e
    split at e
    · rename_i hc
      obtain ⟨e1, e2⟩ := e
      obtain ⟨a, b⟩ := cksP_ok e2
      refine ⟨a, fun i' o' s' v' q hq => ?_⟩
      rcases List.mem_cons.1 q with q | q
      · cases q; exact e1
      · exact b _ _ _ _ q hq
    · rename_i hc
      obtain ⟨a, b⟩ := cksP_ok e
      refine ⟨a, fun i' o' s' v' q hq => ?_⟩
      rcases List.mem_cons.1 q with q | q
      · cases q; rw [hq] at hc; cases hc
      · exact b _ _ _ _ q hq
theorem hasCk_key {cks : List (Nat × List Nat)} {i p : Nat} (h : hasCk cks i p = true) : keyCk cks i = true := by
  simp only [hasCk, keyCk, List.any_eq_true, Bool.and_eq_true] at h ⊢
  obtain ⟨c, a, b, _⟩ := h
  exact ⟨c, a, b⟩
theorem pendP_ok {p : APend} {s : Tr AV} {k : Prop} (e : pendP p s k) : k ∧ ∃ o, p.obj (mkS s) = some o := by
  cases p with
  | cells c => exact ⟨e, _, rfl⟩
  | map => exact ⟨e, _, rfl⟩
  | _ => obtain ⟨o, ho, q⟩ := optP_elim (show optP _ _ from e); exact ⟨q, o, ho⟩
section
variable {P : Program} {W0 : World}
theorem opJ_quiet {o : AOp} {s : Tr AV} {h : EH} {k : AV → EH → Prop} (q : o.loud = false) (e : opJ P W0 o s h k) : ∃ v, o.evE go0 (mkS s) h = some (v, h) ∧ k v h := by
  have := opJ_opS e
  have key : ∀ v h', o.evE go0 (mkS s) h = some (v, h') → h' = h := fun v h' e => AOper.quiet (o := ⟨none, none, o⟩) q e
  have fin : optP (o.evE go0 (mkS s) h) (fun p => k p.1 p.2) → ∃ v, o.evE go0 (mkS s) h = some (v, h) ∧ k v h := fun e => by
    obtain ⟨p, hp, e⟩ := optP_elim e
    have := key p.1 p.2 hp
    rw [this] at e
    refine ⟨p.1, ?_, e⟩
    rw [hp, ← this]
  cases o with
  | pu x => exact fin this
  | px x => exact fin this
  | ef x =>
    cases x <;> first
      | (cases q; done)
      | (simp only [opS] at this; exact fin this)
theorem operJ_quiet {o : AOper} {s : Tr AV} {h : EH} {k : AV → EH → Prop} (q : o.op.loud = false) (e : operJ P W0 o s h k) : ∃ v, o.evE go0 (mkS s) h = some (v, h) ∧ k v h := by
  obtain ⟨d, g, op⟩ := o
  cases g with
  | none => exact opJ_quiet q e
  | some x =>
    obtain ⟨t, w⟩ := x
    simp only [operJ] at e
    simp only [AOper.evE]
    have hs : (mkS s).s t = gv s (.t t) := (gv_eq s (.t t)).symm
    rw [hs]
    unfold condG at e
    split at e
    · rename_i b hb
      rw [hb]
      simp only
      split at e
      · rename_i z
        subst z
        simp only [beq_self_eq_true, sel_true]
        exact opJ_quiet q e
      · rename_i z
        have : (b == w) = false := by simpa using z
        rw [this, sel_false]
        exact ⟨_, rfl, e⟩
    · rename_i vs hb
      rw [hb]
      exact ⟨_, rfl, e⟩
    · exact e.elim
theorem opCk_ok {o : AOp} {s : Tr AV} {h : EH} {v : AV} (e : opCk o s h v) : o.evE go0 (mkS s) h = some (v, h) := by
  cases o with
  | pu x =>
    obtain ⟨p, hp, q⟩ := optP_elim (show optP _ _ from e)
    subst q
    rw [PExp.sub_ev] at hp
    simp only [AOp.evE, hp]
  | px x =>
    obtain ⟨p, hp, q⟩ := optP_elim (show optP _ _ from e)
    subst q
    rw [XExp.sub_ev] at hp
    simp only [AOp.evE, hp]
  | ef x => exact e.elim
theorem operCk_ok {o : AOper} {s : Tr AV} {h : EH} {v : AV} (e : operCk o s h v) : o.evE go0 (mkS s) h = some (v, h) := by
  obtain ⟨d, g, op⟩ := o
  cases g with
  | none => exact opCk_ok e
  | some x =>
    obtain ⟨t, w⟩ := x
    simp only [operCk] at e
    simp only [AOper.evE]
    have hs : (mkS s).s t = gv s (.t t) := (gv_eq s (.t t)).symm
    rw [hs]
    unfold condG at e
    split at e
    · rename_i b hb
      rw [hb]
      simp only
      split at e
      · rename_i z
        subst z
        simp only [beq_self_eq_true, sel_true]
        exact opCk_ok e
      · rename_i z
        have : (b == w) = false := by simpa using z
        rw [this, sel_false, e]
    · rename_i vs hb
      rw [hb, e]
    · exact e.elim
theorem opS_wp {op : AOp} {s : Tr AV} {h : EH} {k : AV → EH → Prop} {d : Option Nat} {K : AS → AHeap → Prop} {st : AS} (a : ∀ t ∈ op.rd, st.s t = (mkS s).s t) (hk : ∀ v h', k v h' → K (st.set d v) h'.list) (e : opS P W0 op s h k) : op.wp P W0 d K st h.list := by
  have rest : optP (op.evE go0 (mkS s) h) (fun p => k p.1 p.2) → op.wp P W0 d K st h.list := fun e => by
    obtain ⟨p, hp, e⟩ := optP_elim e
    obtain ⟨v, h'⟩ := p
    have : op.evE go0 st h = some (v, h') := by
      have := AOper.evE_congr (go := go0) (h := h) (st := st) (st' := mkS s) (o := ⟨d, none, op⟩) (fun t ht => a t (by simpa [AOper.rd] using ht))
      simp only [AOper.evE] at this
      rw [this]; exact hp
    exact AOp.evE_ok (go0_ok P W0) this (hk _ _ e)
  cases op with
  | pu x => exact rest e
  | px x => exact rest e
  | ef x =>
    cases x with
    | call f args =>
      simp only [AOp.rd, EOp.rd, List.mem_append, List.mem_flatMap] at a
      have e1 : st.ev f = (mkS s).ev f := ev_congr fun t ht => a t (.inl ht)
      have e2 : args.map st.ev = args.map (mkS s).ev := List.map_congr_left fun o ho => ev_congr fun t ht => a t (.inr ⟨o, ho, ht⟩)
      simp only [opS, callS] at e
      show callAV P W0 (st.ev f) (args.map st.ev) _ _ _ _
      rw [e1, e2]
      unfold callAV
      generalize (mkS s).ev f = f at e
      cases f with
      | fn f first captured =>
        cases f with
        | func g => exact ⟨e.1, ACalls.mono e.2 fun r H' ⟨h', e1, q⟩ => by subst e1; exact hk _ _ q⟩
        | _ => exact e.elim
      | yfn b => exact ⟨e.1, AYields.mono e.2 fun r H' ⟨h', e1, q⟩ => by subst e1; exact hk _ _ q⟩
      | _ => exact e.elim
    | next x =>
      have e1 : st.ev x = (mkS s).ev x := ev_congr fun t ht => a t ht
      simp only [opS] at e
      show nextAV (st.ev x) _ _ _ _
      rw [e1]
      exact nextS_ok e hk
    | _ => exact rest e
theorem operJ_wp {o : AOper} {s : Tr AV} {h : EH} {k : AV → EH → Prop} {K : AS → AHeap → Prop} {st : AS} (a : ∀ t ∈ o.rd, st.s t = (mkS s).s t) (hk : ∀ v h', k v h' → K (st.set o.dst v) h'.list) (e : operJ P W0 o s h k) : o.wp P W0 K st h.list := by
  obtain ⟨d, g, op⟩ := o
  have ha : ∀ t ∈ op.rd, st.s t = (mkS s).s t := fun t ht => a t (by simp only [AOper.rd, List.mem_append]; exact .inr ht)
  cases g with
  | none => exact opS_wp ha hk (opJ_opS e)
  | some x =>
    obtain ⟨t, w⟩ := x
    simp only [operJ] at e
    have hs : st.s t = gv s (.t t) := by rw [a t (by simp [AOper.rd])]; exact (gv_eq s (.t t)).symm
    simp only [AOper.wp]
    rw [hs]
    unfold condG at e
    split at e
    · rename_i b hb
      rw [hb]
      simp only
      split
      · rename_i z; rw [if_pos z] at e; exact opS_wp ha hk (opJ_opS e)
      · rename_i z; rw [if_neg z] at e; exact hk _ _ e
    · rename_i vs hb
      rw [hb]
      exact hk _ _ e
    · exact e.elim

/-! ### One order tells of all -/
/-- What has been reckoned, up to a frontier. -/
structure DF (l : List AOper) (pn : List (Option APend)) (pubs : List (List Nat)) (cks : List (Nat × List Nat)) (s : Tr AV) (S A : Nat → Tr AV) (B Hh : Nat → EH) (V : Nat → AV) (F : Nat) : Prop where
  s0 : S 0 = s
  pre : ∀ i, i < F → preE (S i) ((pubs.getD i []).map fun t => (t, mkOf l pn t)) (S i) (Hh i) = some (A i, B i)
  nx : ∀ i, i < F → isP pn i = false → S (i + 1) = putO (A i) (opAt l i).dst (V i)
  nq : ∀ i, i < F → isP pn i = false → sloud l pn pubs i = false → (opAt l i).evE go0 (mkS (A i)) (B i) = some (V i, Hh (i + 1))
  no : ∀ i, i < F → isP pn i = true → Hh (i + 1) = B i ∧ S (i + 1) = A i
  pd : ∀ i p, i < F → pn.getD i none = some p → ∃ o, p.obj (mkS (A i)) = some o
  ck : ∀ i p, i < F → isP pn i = false → i + 1 < p → p ≤ F → hasCk cks i p = true → operCk (opAt l i) (A i) (Hh p) (V i)
def EvOk (l : List AOper) (pn : List (Option APend)) (cks : List (Nat × List Nat)) (A : Nat → Tr AV) (V : Nat → AV) (F : Nat) (ev : Evs) : Prop := ∀ i, i < F → isP pn i = false → keyCk cks i = true → (i, opAt l i, A i, V i) ∈ ev
def upd {α : Type} (f : Nat → α) (n : Nat) (x : α) : Nat → α := fun i => if i = n then x else f i
theorem upd_eq {α : Type} {f : Nat → α} {n : Nat} {x : α} : upd f n x n = x := if_pos rfl
theorem upd_ne {α : Type} {f : Nat → α} {n : Nat} {x : α} {i : Nat} (h : i ≠ n) : upd f n x i = f i := if_neg h
theorem qsteps_drop {l : List AOper} {pn : List (Option APend)} {pubs : List (List Nat)} {F : Nat} (h : F < l.length) : (qsteps l pn pubs).drop F = ⟨(pubs.getD F []).map fun t => (t, mkOf l pn t), pn.getD F none, opAt l F⟩ :: (qsteps l pn pubs).drop (F + 1) := by
  have hl : F < (qsteps l pn pubs).length := by simpa [qsteps] using h
  rw [List.drop_eq_getElem_cons hl]
  congr 1
  simp [qsteps]
/-- One more operation has been reckoned. -/
theorem DF.more {l : List AOper} {pn : List (Option APend)} {pubs : List (List Nat)} {cks : List (Nat × List Nat)} {s : Tr AV} {S A : Nat → Tr AV} {B Hh : Nat → EH} {V : Nat → AV} {F : Nat} (d : DF l pn pubs cks s S A B Hh V F) {A1 : Tr AV} {B1 h1 : EH} {v : AV} {ev : Evs}
    (hpre : preE (S F) ((pubs.getD F []).map fun t => (t, mkOf l pn t)) (S F) (Hh F) = some (A1, B1)) (hev : EvOk l pn cks A V F ev)
    (h2 : isP pn F = false → sloud l pn pubs F = false → (opAt l F).evE go0 (mkS A1) B1 = some (v, h1)) (h3 : isP pn F = true → h1 = B1) (h4 : ∀ p, pn.getD F none = some p → ∃ o, p.obj (mkS A1) = some o)
    (hck : ∀ i o s v, (i, o, s, v) ∈ ev → hasCk cks i (F + 1) = true → operCk o s h1 v) :
    DF l pn pubs cks s (upd S (F + 1) (match isP pn F with | true => A1 | false => putO A1 (opAt l F).dst v)) (upd A F A1) (upd B F B1) (upd Hh (F + 1) h1) (upd V F v) (F + 1) := by
  have lt : ∀ {i}, i < F + 1 → i ≠ F → i < F := fun a b => by omega
  refine ⟨?_, fun i hi => ?_, fun i hi hp => ?_, fun i hi hp hl => ?_, fun i hi hp => ?_, fun i p hi hp => ?_, fun i p hi hp hip hpF hc => ?_⟩
  · rw [upd_ne (by omega)]; exact d.s0
  · rw [upd_ne (by omega), upd_ne (by omega)]
    by_cases q : i = F
    · subst q; rw [upd_eq, upd_eq]; exact hpre
    · rw [upd_ne q, upd_ne q]; exact d.pre i (lt hi q)
  · by_cases q : i = F
    · subst q; rw [upd_eq, upd_eq, upd_eq, hp]
    · rw [upd_ne (by omega), upd_ne q, upd_ne q]; exact d.nx i (lt hi q) hp
  · by_cases q : i = F
    · subst q; rw [upd_eq, upd_eq, upd_eq, upd_eq]; exact h2 hp hl
    · rw [upd_ne q, upd_ne q, upd_ne q, upd_ne (by omega)]; exact d.nq i (lt hi q) hp hl
  · by_cases q : i = F
    · subst q; rw [upd_eq, upd_eq, upd_eq, upd_eq, hp]; exact ⟨h3 hp, rfl⟩
    · rw [upd_ne (by omega), upd_ne q, upd_ne (by omega), upd_ne q]; exact d.no i (lt hi q) hp
  · by_cases q : i = F
    · subst q; rw [upd_eq]; exact h4 p hp
    · rw [upd_ne q]; exact d.pd i p (lt hi q) hp
  · by_cases q : i = F
    · omega
    · rw [upd_ne q, upd_ne q]
      by_cases z : p = F + 1
      · subst z
        rw [upd_eq]
        exact hck _ _ _ _ (hev i (lt hi q) hp (hasCk_key hc)) hc
      · rw [upd_ne z]
        exact d.ck i p (lt hi q) hp hip (by omega) hc

theorem quiet_of {l : List AOper} {pn : List (Option APend)} {pubs : List (List Nat)} {i : Nat} (q : sloud l pn pubs i = false) : pubs.getD i [] = [] ∧ (isP pn i = false → (opAt l i).op.loud = false) := by
  simp only [sloud, Bool.or_eq_false_iff, Bool.and_eq_false_iff, Bool.not_eq_false', List.isEmpty_iff] at q
  refine ⟨q.2, fun z => ?_⟩
  rcases q.1 with y | y
  · rw [z] at y; cases y
  · exact y
theorem EvOk.more {l : List AOper} {pn : List (Option APend)} {cks : List (Nat × List Nat)} {A : Nat → Tr AV} {V : Nat → AV} {F : Nat} {ev : Evs} (h : EvOk l pn cks A V F ev) {A1 : Tr AV} {v : AV} : EvOk l pn cks (upd A F A1) (upd V F v) (F + 1) (match keyCk cks F with | true => (F, opAt l F, A1, v) :: ev | false => ev) := by
  intro i hi hp hk
  by_cases q : i = F
  · subst q; rw [hk, upd_eq, upd_eq]; exact List.mem_cons_self
  · rw [upd_ne q, upd_ne q]
    have := h i (by omega) hp hk
    split
    · exact List.mem_cons_of_mem _ this
    · exact this
theorem EvOk.more' {l : List AOper} {pn : List (Option APend)} {cks : List (Nat × List Nat)} {A : Nat → Tr AV} {V : Nat → AV} {F : Nat} {ev : Evs} (h : EvOk l pn cks A V F ev) (hp : isP pn F = true) {A1 : Tr AV} {v : AV} : EvOk l pn cks (upd A F A1) (upd V F v) (F + 1) ev := by
  intro i hi hpi hk
  by_cases q : i = F
  · subst q; rw [hp] at hpi; cases hpi
  · rw [upd_ne q, upd_ne q]; exact h i (by omega) hpi hk
/-- What is quiet is reckoned, up to what is loud. -/
theorem adv {l : List AOper} {pn : List (Option APend)} {pubs : List (List Nat)} {cks : List (Nat × List Nat)} {s : Tr AV} {k : Tr AV → EH → Prop} : ∀ (n F : Nat) (S A : Nat → Tr AV) (B Hh : Nat → EH) (V : Nat → AV) (ev : Evs), n + F = l.length →
    DF l pn pubs cks s S A B Hh V F → EvOk l pn cks A V F ev → drawC P W0 cks F ((qsteps l pn pubs).drop F) ev k (S F) (Hh F) →
    ∃ (F' : Nat) (S' A' : Nat → Tr AV) (B' Hh' : Nat → EH) (V' : Nat → AV) (ev' : Evs), F ≤ F' ∧ F' ≤ l.length ∧ DF l pn pubs cks s S' A' B' Hh' V' F' ∧ EvOk l pn cks A' V' F' ev' ∧ drawC P W0 cks F' ((qsteps l pn pubs).drop F') ev' k (S' F') (Hh' F') ∧
      (F' = l.length ∨ sloud l pn pubs F' = true) ∧ (∀ i, F ≤ i → i < F' → sloud l pn pubs i = false) ∧ (∀ i, i ≤ F → S' i = S i ∧ Hh' i = Hh i) ∧ (∀ i, i < F → A' i = A i ∧ V' i = V i) := by
  intro n
  induction n with
  | zero =>
    intro F S A B Hh V ev hn d he r
    exact ⟨F, S, A, B, Hh, V, ev, Nat.le_refl _, by omega, d, he, r, .inl (by omega), fun i h1 h2 => by omega, fun i _ => ⟨rfl, rfl⟩, fun i _ => ⟨rfl, rfl⟩⟩
  | succ n ih =>
    intro F S A B Hh V ev hn d he r
    cases hq : sloud l pn pubs F with
    | true => exact ⟨F, S, A, B, Hh, V, ev, Nat.le_refl _, by omega, d, he, r, .inr hq, fun i h1 h2 => by omega, fun i _ => ⟨rfl, rfl⟩, fun i _ => ⟨rfl, rfl⟩⟩
    | false =>
      obtain ⟨q1, q2⟩ := quiet_of hq
      have hF : F < l.length := by omega
      rw [qsteps_drop hF] at r
      simp only [drawC] at r
      obtain ⟨s1, h1, hx, r⟩ := preC_ok r
      have hpre := hx
      rw [q1] at hx
      simp only [List.map_nil, preE, Option.some.injEq, Prod.mk.injEq] at hx
      obtain ⟨hx1, hx2⟩ := hx
      subst hx1 hx2
      have fin : ∀ (S2 A2 : Nat → Tr AV) (B2 H2 : Nat → EH) (V2 : Nat → AV) (ev2 : Evs), DF l pn pubs cks s S2 A2 B2 H2 V2 (F + 1) → EvOk l pn cks A2 V2 (F + 1) ev2 → drawC P W0 cks (F + 1) ((qsteps l pn pubs).drop (F + 1)) ev2 k (S2 (F + 1)) (H2 (F + 1)) →
          (∀ i, i ≤ F → S2 i = S i ∧ H2 i = Hh i) → (∀ i, i < F → A2 i = A i ∧ V2 i = V i) → ∃ (F' : Nat) (S' A' : Nat → Tr AV) (B' Hh' : Nat → EH) (V' : Nat → AV) (ev' : Evs), F ≤ F' ∧ F' ≤ l.length ∧ DF l pn pubs cks s S' A' B' Hh' V' F' ∧ EvOk l pn cks A' V' F' ev' ∧ drawC P W0 cks F' ((qsteps l pn pubs).drop F') ev' k (S' F') (Hh' F') ∧
            (F' = l.length ∨ sloud l pn pubs F' = true) ∧ (∀ i, F ≤ i → i < F' → sloud l pn pubs i = false) ∧ (∀ i, i ≤ F → S' i = S i ∧ Hh' i = Hh i) ∧ (∀ i, i < F → A' i = A i ∧ V' i = V i) := by
        intro S2 A2 B2 H2 V2 ev2 d2 he2 r2 a1 a2
        obtain ⟨F', S', A', B', Hh', V', ev', z1, z2, z3, z4, z5, z6, z7, z8, z9⟩ := ih (F + 1) S2 A2 B2 H2 V2 ev2 (by omega) d2 he2 r2
        refine ⟨F', S', A', B', Hh', V', ev', by omega, z2, z3, z4, z5, z6, fun i h1 h2 => ?_, fun i hi => ?_, fun i hi => ?_⟩
        · by_cases q : i = F
          · subst q; exact hq
          · exact z7 i (by omega) h2
        · rw [(z8 i (by omega)).1, (z8 i (by omega)).2]; exact a1 i hi
        · rw [(z9 i (by omega)).1, (z9 i (by omega)).2]; exact a2 i hi
      cases hp : isP pn F with
      | true =>
        obtain ⟨p, hpp⟩ := isP_true hp
        rw [hpp] at r
        simp only at r
        obtain ⟨r, ho⟩ := pendP_ok r
        obtain ⟨r, hc⟩ := cksP_ok r
        have dd := d.more hpre he (v := .any) (h1 := Hh F) (fun z => by rw [hp] at z; cases z) (fun _ => rfl) (fun p' hp' => by rw [hpp] at hp'; cases hp'; exact ho) hc
        refine fin _ _ _ _ _ _ dd (he.more' hp) ?_ (fun i hi => ⟨upd_ne (by omega), upd_ne (by omega)⟩) (fun i hi => ⟨upd_ne (by omega), upd_ne (by omega)⟩)
        rw [upd_eq, upd_eq, hp]
        exact r
      | false =>
        rw [isP_none hp] at r
        simp only at r
        obtain ⟨v, hv, r⟩ := operJ_quiet (q2 hp) r
        obtain ⟨r, hc⟩ := cksP_ok r
        have dd := d.more hpre he (v := v) (h1 := Hh F) (fun _ _ => hv) (fun _ => rfl) (fun p' hp' => by rw [isP_some hp'] at hp; cases hp) hc
        refine fin _ _ _ _ _ _ dd he.more ?_ (fun i hi => ⟨upd_ne (by omega), upd_ne (by omega)⟩) (fun i hi => ⟨upd_ne (by omega), upd_ne (by omega)⟩)
        rw [upd_eq, upd_eq, hp]
        exact r
/-- How a state in the midst of the region stands to what has been reckoned. -/
structure DInv (l : List AOper) (after : List (List Nat)) (pn : List (Option APend)) (pubs : List (List Nat)) (s : Tr AV) (S A : Nat → Tr AV) (F : Nat) (done : List Nat) (st : AS) : Prop where
  lt : ∀ i ∈ done, i < F
  nodup : done.Nodup
  closed : ∀ i ∈ done, ∀ j ∈ after.getD i [], j ∈ done
  loud : ∀ j, j < l.length → sloud l pn pubs j = true → (j ∈ done ↔ j < F)
  loc : st.loc = fun _ => none
  s1 : ∀ j ∈ done, ∀ t ∈ wrs l pn pubs j, st.s t = (mkS (S (j + 1))).s t
  s2 : ∀ t, (∀ j ∈ done, t ∉ wrs l pn pubs j) → (∀ u p, u < l.length → pn.getD u none = some p → (opAt l u).dst ≠ some t) → st.s t = (mkS s).s t
  s3 : ∀ u ∈ done, ∀ p t j, pn.getD u none = some p → (opAt l u).dst = some t → j < l.length → t ∈ pubs.getD j [] → j ∉ done → st.pnd t = p.obj (mkS (A u))
  s4 : ∀ t, st.pnd t ≠ none → ∃ u ∈ done, ∃ p, pn.getD u none = some p ∧ (opAt l u).dst = some t ∧ ∀ j, j < l.length → t ∈ pubs.getD j [] → j ∉ done
theorem drawC_main {l : List AOper} {after : List (List Nat)} {pn : List (Option APend)} {pubs : List (List Nat)} {cks : List (Nat × List Nat)} {s : Tr AV} {k : Tr AV → EH → Prop} {K : AS → AHeap → Prop}
    (hpl : Plan l after pn pubs cks) (hcks : ∀ i p, hasCk cks i p = true ↔ ∃ c ∈ cks, c.1 = i ∧ p ∈ c.2) (hfst : ∀ i j, i < l.length → j < i → sloud l pn pubs i = false → sloud l pn pubs j = true → Before after j i) (hk : ∀ s h, k s h → K (mkS s) h.list) :
    ∀ (m : Nat) (done : List Nat) (st : AS) (H : AHeap) (S A : Nat → Tr AV) (B Hh : Nat → EH) (V : Nat → AV) (F : Nat) (ev : Evs), m + done.length = l.length → DF l pn pubs cks s S A B Hh V F → F ≤ l.length → (F = l.length ∨ sloud l pn pubs F = true) →
      EvOk l pn cks A V F ev → drawC P W0 cks F ((qsteps l pn pubs).drop F) ev k (S F) (Hh F) → DInv l after pn pubs s S A F done st → H = (Hh F).list → awpAny P W0 l after pn pubs K m done st H := by
  have mw : ∀ i t, t ∈ wrs l pn pubs i ↔ (isP pn i = false ∧ (opAt l i).dst = some t) ∨ t ∈ pubs.getD i [] := by
    intro i t
    simp only [wrs, List.mem_append]
    cases q : isP pn i with
    | true => simp
    | false =>
      cases q2 : (opAt l i).dst with
      | none => simp
      | some u => simp [eq_comm]
  have hfs : ∀ i, ((pubs.getD i []).map fun t => (t, mkOf l pn t)).map (·.1) = pubs.getD i [] := fun i => by simp [List.map_map, Function.comp_def]
  have pslot : ∀ u p t, u < l.length → pn.getD u none = some p → (opAt l u).dst = some t → ∃ j, j < l.length ∧ t ∈ pubs.getD j [] ∧ Before after u j := by
    intro u p t hu hq hd
    obtain ⟨t', ht', hj, _⟩ := hpl.pdst u p hu hq
    rw [hd] at ht'; cases ht'
    exact hj
  intro m
  induction m with
  | zero =>
    intro done st H S A B Hh V F ev hlen d hF hFl he r I hH
    have hall : ∀ i, i < l.length → i ∈ done := fun i hi => nodup_all done I.nodup l.length (fun j hj => Nat.lt_of_lt_of_le (I.lt j hj) hF) (by omega) i hi
    have eF : F = l.length := by
      rcases Nat.lt_or_ge F l.length with q | q
      · have := I.lt F (hall F q); omega
      · omega
    subst eF
    have fA : ∀ i t, i < l.length → t ∉ pubs.getD i [] → (mkS (A i)).s t = (mkS (S i)).s t := fun i t hi q => preE_frame (d.pre i hi) t (by rw [hfs]; exact q)
    have keep : ∀ i t, i < l.length → t ∉ wrs l pn pubs i → (mkS (S (i + 1))).s t = (mkS (S i)).s t := by
      intro i t hi q
      have q2 : t ∉ pubs.getD i [] := fun z => q ((mw i t).2 (.inr z))
      cases qp : isP pn i with
      | true => rw [(d.no i hi qp).2]; exact fA i t hi q2
      | false =>
        rw [d.nx i hi qp, mkS_putO, set_ne (fun z => q ((mw i t).2 (.inl ⟨qp, z⟩)))]
        exact fA i t hi q2
    have Va : ∀ j t, j < l.length → t ∈ wrs l pn pubs j → ∀ i, j < i → i ≤ l.length → (mkS (S i)).s t = (mkS (S (j + 1))).s t := by
      intro j t hj ej i
      induction i with
      | zero => intro q; omega
      | succ i ih =>
        intro q1 q2
        by_cases q : i = j
        · subst q; rfl
        · rw [keep i t (by omega) (fun z => q (hpl.uniq i j t (by omega) hj z ej))]
          exact ih (by omega) (by omega)
    have Vb : ∀ t i, i ≤ l.length → (∀ j, j < i → t ∉ wrs l pn pubs j) → (mkS (S i)).s t = (mkS s).s t := by
      intro t i
      induction i with
      | zero => intro _ _; rw [d.s0]
      | succ i ih =>
        intro q ht'
        rw [keep i t (by omega) (ht' i (by omega))]
        exact ih (by omega) (fun j hj => ht' j (by omega))
    have e1 : st = mkS (S l.length) := by
      have e2 : st.s = (mkS (S l.length)).s := by
        funext t
        by_cases q : ∃ j, j < l.length ∧ t ∈ wrs l pn pubs j
        · obtain ⟨j, hj, ej⟩ := q
          rw [I.s1 j (hall j hj) t ej, Va j t hj ej l.length hj (Nat.le_refl _)]
        · have q' : ∀ j, j < l.length → t ∉ wrs l pn pubs j := fun j hj z => q ⟨j, hj, z⟩
          rw [I.s2 t (fun j hj => q' j (I.lt j hj)) (fun u p hu hq hd => by
            obtain ⟨j, hj, hjt, _⟩ := pslot u p t hu hq hd
            exact q' j hj ((mw j t).2 (.inr hjt))), Vb t l.length (Nat.le_refl _) q']
      have e3 : st.pnd = fun _ => none := by
        funext t
        cases q : st.pnd t with
        | none => rfl
        | some o =>
          obtain ⟨u, hu, p, hq, hd, hj⟩ := I.s4 t (by rw [q]; simp)
          obtain ⟨j, hj1, hj2, _⟩ := pslot u p t (I.lt u hu) hq hd
          exact (hj j hj1 hj2 (hall j hj1)).elim
      have hlo := I.loc
      rcases st with ⟨a, b, c⟩
      simp only at e2 e3 hlo
      rw [e2, hlo, e3]; rfl
    simp only [awpAny]
    have ed : (qsteps l pn pubs).drop l.length = [] := List.drop_eq_nil_of_le (by simp [qsteps])
    rw [ed] at r
    simp only [drawC] at r
    rw [e1, hH]
    exact hk _ _ r
  | succ m ih =>
    intro done st H S A B Hh V F ev hlen d hF hFl he r I hH i hi hr
    simp only [readyA, Bool.and_eq_true, Bool.not_eq_true', List.all_eq_true] at hr
    have hni : i ∉ done := by simpa using hr.1
    have hai : ∀ j ∈ after.getD i [], j ∈ done := fun j hj => by simpa using hr.2 j hj
    have bef : ∀ j, Before after j i → j ∈ done := fun j z => z.ready I.closed hai
    have aft : ∀ j, Before after i j → j ∉ done := fun j z y => hni (z.done I.closed y)
    have fA : ∀ i t, i < F → t ∉ pubs.getD i [] → (mkS (A i)).s t = (mkS (S i)).s t := fun i t hi q => preE_frame (d.pre i hi) t (by rw [hfs]; exact q)
    have keep : ∀ i t, i < F → t ∉ wrs l pn pubs i → (mkS (S (i + 1))).s t = (mkS (S i)).s t := by
      intro i t hi q
      have q2 : t ∉ pubs.getD i [] := fun z => q ((mw i t).2 (.inr z))
      cases qp : isP pn i with
      | true => rw [(d.no i hi qp).2]; exact fA i t hi q2
      | false =>
        rw [d.nx i hi qp, mkS_putO, set_ne (fun z => q ((mw i t).2 (.inl ⟨qp, z⟩)))]
        exact fA i t hi q2
    have Va : ∀ j t, j < F → t ∈ wrs l pn pubs j → ∀ i, j < i → i ≤ F → (mkS (S i)).s t = (mkS (S (j + 1))).s t := by
      intro j t hj ej i
      induction i with
      | zero => intro q; omega
      | succ i ih =>
        intro q1 q2
        by_cases q : i = j
        · subst q; rfl
        · rw [keep i t (by omega) (fun z => q (hpl.uniq i j t (by omega) (by omega) z ej))]
          exact ih (by omega) (by omega)
    have Vb : ∀ t i, i ≤ F → (∀ j, j < i → t ∉ wrs l pn pubs j) → (mkS (S i)).s t = (mkS s).s t := by
      intro t i
      induction i with
      | zero => intro _ _; rw [d.s0]
      | succ i ih =>
        intro q ht'
        rw [keep i t (by omega) (ht' i (by omega))]
        exact ih (by omega) (fun j hj => ht' j (by omega))
    -- where i stands
    have hloudF : F < l.length → sloud l pn pubs F = true := fun q => by
      rcases hFl with z | z
      · omega
      · exact z
    have hnF : F < l.length → F ∉ done := fun q z => by have := I.lt F z; omega
    have hiF : (sloud l pn pubs i = false ∧ i < F) ∨ (sloud l pn pubs i = true ∧ i = F) := by
      cases hq : sloud l pn pubs i with
      | false =>
        refine .inl ⟨rfl, ?_⟩
        rcases Nat.lt_or_ge i F with z | z
        · exact z
        · exfalso
          have hFn : F < l.length := by omega
          have hl2 := hloudF hFn
          rcases Nat.lt_or_ge F i with y | y
          · exact hnF hFn (bef _ (hfst i F hi y hq hl2))
          · have : i = F := by omega
            subst this; rw [hq] at hl2; cases hl2
      | true =>
        refine .inr ⟨rfl, ?_⟩
        rcases Nat.lt_trichotomy i F with z | z | z
        · exact absurd ((I.loud i hi hq).2 z) hni
        · exact z
        · exfalso
          have hFn : F < l.length := by omega
          have m1 : F ∈ loudsOf l pn pubs := by simp only [loudsOf, List.mem_filter, List.mem_range]; exact ⟨hFn, hloudF hFn⟩
          have m2 : i ∈ loudsOf l pn pubs := by simp only [loudsOf, List.mem_filter, List.mem_range]; exact ⟨hi, hq⟩
          exact hnF hFn (bef _ (hpl.chain _ _ m1 m2 z))
    have hiF' : i ≤ F := by rcases hiF with z | z <;> omega
    have agree : ∀ A1 B1, preE (S i) ((pubs.getD i []).map fun t => (t, mkOf l pn t)) (S i) (Hh i) = some (A1, B1) → isP pn i = false → ∀ t ∈ (opAt l i).rd, (pubAS (pubs.getD i []) (mkS A1).s st).s t = (mkS A1).s t := by
      intro A1 B1 hpre qp t ht'
      simp only [pubAS]
      split
      · rfl
      rename_i tn
      rw [preE_frame hpre t (by rw [hfs]; exact tn)]
      have free : (∀ j, j < l.length → t ∈ pubs.getD j [] → False) → ∀ u p, u < l.length → pn.getD u none = some p → (opAt l u).dst ≠ some t := fun z u p hu hq hd => by
        obtain ⟨j, hj, hjt, _⟩ := pslot u p t hu hq hd
        exact z j hj hjt
      by_cases q : ∃ j, j < l.length ∧ t ∈ wrs l pn pubs j
      · obtain ⟨j, hj, ej⟩ := q
        have none' : i ≤ j → j ∉ done → t ∉ pubs.getD j [] → st.s t = (mkS (S i)).s t := by
          intro hij hnd' hnp
          rw [I.s2 t (fun u hu eu => hnd' (hpl.uniq u j t (by have := I.lt u hu; omega) hj eu ej ▸ hu)) (free fun j2 hj2 ht2 => hnp (hpl.uniq j2 j t hj2 hj ((mw j2 t).2 (.inr ht2)) ej ▸ ht2)),
            Vb t i hiF' (fun u hu eu => by have := hpl.uniq u j t (by omega) hj eu ej; omega)]
        rcases hpl.rd i t j hi qp ht' hj ej with z | ⟨z1, z⟩ | z
        · rw [I.s1 j (bef j z) t ej, Va j t (I.lt j (bef j z)) ej i (z.lt hpl.edge) hiF']
        · exact none' (Nat.le_of_lt (z.lt hpl.edge)) (aft j z) z1
        · subst z; exact none' (Nat.le_refl _) hni tn
      · have q' : ∀ j, j < l.length → t ∉ wrs l pn pubs j := fun j hj z => q ⟨j, hj, z⟩
        rw [I.s2 t (fun j hj => q' j (by have := I.lt j hj; omega)) (free fun j hj z => q' j hj ((mw j t).2 (.inr z))), Vb t i hiF' (fun j hj => q' j (by omega))]
    -- what is owed after the step
    have next : ∀ (S2 A2 : Nat → Tr AV) (B2 H2 : Nat → EH) (V2 : Nat → AV) (F2 : Nat) (ev2 : Evs) st', DF l pn pubs cks s S2 A2 B2 H2 V2 F2 → F2 ≤ l.length → (F2 = l.length ∨ sloud l pn pubs F2 = true) → EvOk l pn cks A2 V2 F2 ev2 →
        drawC P W0 cks F2 ((qsteps l pn pubs).drop F2) ev2 k (S2 F2) (H2 F2) → i < F2 → F ≤ F2 → (∀ j, j ≤ F → S2 j = S j) → (∀ j, j < F → A2 j = A j) → (∀ j, j < l.length → sloud l pn pubs j = true → (j ∈ i :: done ↔ j < F2)) →
        st'.loc = (fun _ => none) → (∀ t ∈ wrs l pn pubs i, st'.s t = (mkS (S2 (i + 1))).s t ∧ st'.pnd t = none) →
        (∀ t, t ∉ wrs l pn pubs i → (∀ p, pn.getD i none = some p → (opAt l i).dst ≠ some t) → st'.s t = st.s t ∧ st'.pnd t = st.pnd t) →
        (∀ p t j, pn.getD i none = some p → (opAt l i).dst = some t → j < l.length → t ∈ pubs.getD j [] → st'.pnd t = p.obj (mkS (A2 i))) →
        awpAny P W0 l after pn pubs K m (i :: done) st' (H2 F2).list := by
      intro S2 A2 B2 H2 V2 F2 ev2 st' d2 hF2 hFl2 he2 r2 hi2 hFF aS aA hl2 n1 n2 n3 n4
      refine ih (i :: done) st' _ S2 A2 B2 H2 V2 F2 ev2 (by simp; omega) d2 hF2 hFl2 he2 r2 ?_ rfl
      refine ⟨?_, List.nodup_cons.2 ⟨hni, I.nodup⟩, ?_, hl2, n1, ?_, ?_, ?_, ?_⟩
      · intro j hj
        rcases List.mem_cons.1 hj with rfl | hj
        · exact hi2
        · have := I.lt j hj; omega
      · intro j hj u hu
        rcases List.mem_cons.1 hj with rfl | hj
        · exact List.mem_cons_of_mem _ (hai u hu)
        · exact List.mem_cons_of_mem _ (I.closed j hj u hu)
      · intro j hj t tj
        rcases List.mem_cons.1 hj with rfl | hj
        · exact (n2 t tj).1
        · have hjF := I.lt j hj
          rw [aS (j + 1) (by omega), (n3 t (fun z => hni (hpl.uniq i j t hi (by omega) z tj ▸ hj)) (fun p hq hd => ?_)).1]
          · exact I.s1 j hj t tj
          · obtain ⟨j2, hj2, ht2, hb2⟩ := pslot i p t hi hq hd
            have := hpl.uniq j j2 t (by omega) hj2 tj ((mw j2 t).2 (.inr ht2))
            subst this
            exact aft j hb2 hj
      · intro t w1 w2
        rw [(n3 t (w1 i List.mem_cons_self) (fun p hq => w2 i p hi hq)).1]
        exact I.s2 t (fun j hj => w1 j (List.mem_cons_of_mem _ hj)) w2
      · intro u hu p t j hq hd hj tj hjn
        have hjn1 : j ≠ i := fun z => hjn (z ▸ List.mem_cons_self)
        have hjn2 : j ∉ done := fun z => hjn (List.mem_cons_of_mem _ z)
        rcases List.mem_cons.1 hu with rfl | hu
        · exact n4 p t j hq hd hj tj
        · have huF := I.lt u hu
          rw [aA u huF, (n3 t (fun z => hjn1 (hpl.uniq j i t hj hi ((mw j t).2 (.inr tj)) z)) (fun p2 hq2 hd2 => ?_)).2]
          · exact I.s3 u hu p t j hq hd hj tj hjn2
          · obtain ⟨t3, ht3, _, hun⟩ := hpl.pdst i p2 hi hq2
            rw [hd2] at ht3; cases ht3
            exact hni (hun u (by omega) (isP_some hq) hd ▸ hu)
      · intro t ht'
        have w1 : t ∉ wrs l pn pubs i := fun z => ht' (n2 t z).2
        by_cases q : ∃ p, pn.getD i none = some p ∧ (opAt l i).dst = some t
        · obtain ⟨p, hq, hd⟩ := q
          refine ⟨i, List.mem_cons_self, p, hq, hd, fun j hj tj hjd => ?_⟩
          rcases List.mem_cons.1 hjd with rfl | hjd
          · exact w1 ((mw j t).2 (.inr tj))
          · obtain ⟨j2, hj2, ht2, hb2⟩ := pslot i p t hi hq hd
            have := hpl.uniq j j2 t hj hj2 ((mw j t).2 (.inr tj)) ((mw j2 t).2 (.inr ht2))
            subst this
            exact aft j hb2 hjd
        · rw [(n3 t w1 (fun p hq hd => q ⟨p, hq, hd⟩)).2] at ht'
          obtain ⟨u, hu, p, hq, hd, hj⟩ := I.s4 t ht'
          refine ⟨u, List.mem_cons_of_mem _ hu, p, hq, hd, fun j hj1 tj hjd => ?_⟩
          rcases List.mem_cons.1 hjd with rfl | hjd
          · exact w1 ((mw j t).2 (.inr tj))
          · exact hj j hj1 tj hjd
    have setpnd : ∀ (st : AS) (dd : Option Nat) (x : AV) (t : Nat), st.pnd t = none → (st.set dd x).pnd t = none := fun st dd x t z => by
      cases dd with
      | none => exact z
      | some u => simp only [AS.set]; split <;> first | rfl | exact z
    have setpne : ∀ (st : AS) (dd : Option Nat) (x : AV) (t : Nat), dd ≠ some t → (st.set dd x).pnd t = st.pnd t := fun st dd x t z => by
      cases dd with
      | none => rfl
      | some u => simp only [AS.set]; rw [if_neg (fun y => z (by rw [y]))]
    -- the state after an operation that is not pending
    have afterN : isP pn i = false → ∀ A1 v (S2 : Nat → Tr AV), S2 (i + 1) = putO A1 (opAt l i).dst v →
        ((pubAS (pubs.getD i []) (mkS A1).s st).set (opAt l i).dst v).loc = (fun _ => none) ∧
        (∀ t ∈ wrs l pn pubs i, ((pubAS (pubs.getD i []) (mkS A1).s st).set (opAt l i).dst v).s t = (mkS (S2 (i + 1))).s t ∧ ((pubAS (pubs.getD i []) (mkS A1).s st).set (opAt l i).dst v).pnd t = none) ∧
        (∀ t, t ∉ wrs l pn pubs i → (∀ p, pn.getD i none = some p → (opAt l i).dst ≠ some t) → ((pubAS (pubs.getD i []) (mkS A1).s st).set (opAt l i).dst v).s t = st.s t ∧ ((pubAS (pubs.getD i []) (mkS A1).s st).set (opAt l i).dst v).pnd t = st.pnd t) := by
      intro qp A1 v S2 hS
      refine ⟨by rw [set_loc]; exact I.loc, fun t tw => ?_, fun t tw _ => ?_⟩
      · rw [hS, mkS_putO]
        by_cases q : (opAt l i).dst = some t
        · rw [q]; simp [AS.set]
        · have tp : t ∈ pubs.getD i [] := by
            rcases (mw i t).1 tw with z | z
            · exact absurd z.2 q
            · exact z
          rw [set_ne q, set_ne q]
          exact ⟨by simp only [pubAS, if_pos tp], setpnd _ _ _ _ (by simp only [pubAS, if_pos tp])⟩
      · have q : (opAt l i).dst ≠ some t := fun z => tw ((mw i t).2 (.inl ⟨qp, z⟩))
        have tp : t ∉ pubs.getD i [] := fun z => tw ((mw i t).2 (.inr z))
        rw [set_ne q, setpne _ _ _ _ q]
        exact ⟨by simp only [pubAS, if_neg tp], by simp only [pubAS, if_neg tp]⟩
    -- the state after a pending one
    have afterP : ∀ p t0, pn.getD i none = some p → (opAt l i).dst = some t0 → ∀ A1 (S2 A2 : Nat → Tr AV) (B1 : EH), preE (S i) ((pubs.getD i []).map fun t => (t, mkOf l pn t)) (S i) (Hh i) = some (A1, B1) → (∃ o, p.obj (mkS A1) = some o) → S2 (i + 1) = A1 → A2 i = A1 →
        ∃ o, p.obj (pubAS (pubs.getD i []) (mkS A1).s st) = some o ∧ ((pubAS (pubs.getD i []) (mkS A1).s st).pend t0 o).loc = (fun _ => none) ∧
        (∀ t ∈ wrs l pn pubs i, ((pubAS (pubs.getD i []) (mkS A1).s st).pend t0 o).s t = (mkS (S2 (i + 1))).s t ∧ ((pubAS (pubs.getD i []) (mkS A1).s st).pend t0 o).pnd t = none) ∧
        (∀ t, t ∉ wrs l pn pubs i → (∀ p, pn.getD i none = some p → (opAt l i).dst ≠ some t) → ((pubAS (pubs.getD i []) (mkS A1).s st).pend t0 o).s t = st.s t ∧ ((pubAS (pubs.getD i []) (mkS A1).s st).pend t0 o).pnd t = st.pnd t) ∧
        (∀ p t j, pn.getD i none = some p → (opAt l i).dst = some t → j < l.length → t ∈ pubs.getD j [] → ((pubAS (pubs.getD i []) (mkS A1).s st).pend t0 o).pnd t = p.obj (mkS (A2 i))) := by
      intro p t0 hq hd A1 S2 A2 B1 hpre hoo hS hA
      obtain ⟨j0, hj0, ht0, hb0⟩ := pslot i p t0 hi hq hd
      have hij : i < j0 := hb0.lt hpl.edge
      have hob : p.obj (pubAS (pubs.getD i []) (mkS A1).s st) = p.obj (mkS A1) := by
        refine APend.obj_congr fun t ht' => ?_
        have tn : t ∉ pubs.getD i [] := fun z => by
          have := (hpl.prd i p t i hi hq ht' hi ((mw i t).2 (.inr z))).lt hpl.edge
          omega
        simp only [pubAS, if_neg tn]
        rw [preE_frame hpre t (by rw [hfs]; exact tn)]
        by_cases q : ∃ j, j < l.length ∧ t ∈ wrs l pn pubs j
        · obtain ⟨j, hj, ej⟩ := q
          have z := hpl.prd i p t j hi hq ht' hj ej
          rw [I.s1 j (bef j z) t ej, Va j t (I.lt j (bef j z)) ej i (z.lt hpl.edge) hiF']
        · have q' : ∀ j, j < l.length → t ∉ wrs l pn pubs j := fun j hj z => q ⟨j, hj, z⟩
          rw [I.s2 t (fun j hj => q' j (by have := I.lt j hj; omega)) (fun u p hu hq hd => by
            obtain ⟨j, hj, hjt, _⟩ := pslot u p t hu hq hd
            exact q' j hj ((mw j t).2 (.inr hjt))), Vb t i hiF' (fun j hj => q' j (by omega))]
      obtain ⟨o, ho⟩ := hoo
      have ne0 : ∀ t, t ∈ pubs.getD i [] → t ≠ t0 := fun t tp z => by
        subst z
        have := hpl.uniq i j0 t hi hj0 ((mw i t).2 (.inr tp)) ((mw j0 t).2 (.inr ht0))
        omega
      refine ⟨o, by rw [hob, ho], I.loc, fun t tw => ?_, fun t tw tq => ?_, fun p' t j hq' hd' hj tj => ?_⟩
      · have tp : t ∈ pubs.getD i [] := by
          rcases (mw i t).1 tw with z | z
          · rw [isP_some hq] at z; cases z.1
          · exact z
        rw [hS]
        simp only [AS.pend, if_neg (ne0 t tp), pubAS, if_pos tp, and_self]
      · have tp : t ∉ pubs.getD i [] := fun z => tw ((mw i t).2 (.inr z))
        have tz : t ≠ t0 := fun z => tq p hq (z ▸ hd)
        simp only [AS.pend, if_neg tz, pubAS, if_neg tp, and_self]
      · rw [hq] at hq'; cases hq'
        rw [hd] at hd'; cases hd'
        rw [hA, ho]
        simp only [AS.pend, if_true]
    show pubWp (pubs.getD i []) (fun st H => match pn.getD i none, (opAt l i).dst with
        | some p, some t => p.wp t (awpAny P W0 l after pn pubs K m (i :: done)) st H
        | some _, none => False
        | none, _ => (opAt l i).wp P W0 (awpAny P W0 l after pn pubs K m (i :: done)) st H) st H
    rcases hiF with ⟨hq, hlt⟩ | ⟨hq, rfl⟩
    · -- quiet
      obtain ⟨qe, ql⟩ := quiet_of hq
      have hpre := d.pre i hlt
      have hpre' := hpre
      rw [qe] at hpre'
      simp only [List.map_nil, preE, Option.some.injEq, Prod.mk.injEq] at hpre'
      obtain ⟨qA, qB⟩ := hpre'
      have hl2 : ∀ j, j < l.length → sloud l pn pubs j = true → (j ∈ i :: done ↔ j < F) := fun j hj hjl => by
        rw [List.mem_cons, ← I.loud j hj hjl]
        constructor
        · rintro (z | z)
          · rw [z, hq] at hjl; cases hjl
          · exact z
        · exact .inr
      have e0 : pubAS (pubs.getD i []) (mkS (A i)).s st = st := by rw [qe]; simp [pubAS]
      rw [qe, hH]
      simp only [pubWp]
      cases qp : isP pn i with
      | true =>
        obtain ⟨p, hpi⟩ := isP_true qp
        obtain ⟨t0, ht0, _⟩ := hpl.pdst i p hi hpi
        rw [hpi, ht0]
        simp only
        obtain ⟨o, ho, a1, a2, a3, a4⟩ := afterP p t0 hpi ht0 (A i) S A (B i) hpre (d.pd i p hlt hpi) (d.no i hlt qp).2 rfl
        rw [e0] at ho a1 a2 a3 a4
        unfold APend.wp
        rw [ho]
        exact next S A B Hh V F ev _ d hF hFl he r hlt (Nat.le_refl _) (fun _ _ => rfl) (fun _ _ => rfl) hl2 a1 a2 a3 a4
      | false =>
        rw [isP_none qp]
        simp only
        obtain ⟨a1, a2, a3⟩ := afterN qp (A i) (V i) S (d.nx i hlt qp)
        rw [e0] at a1 a2 a3
        have base := d.nq i hlt qp hq
        have ag := agree (A i) (B i) hpre qp
        rw [e0] at ag
        -- it answers the same at the heap that there is
        have here : (opAt l i).evE go0 (mkS (A i)) (Hh F) = some (V i, Hh F) := by
          have e5 := AOper.quiet (ql qp) base
          have quietH : ∀ j, j < F → sloud l pn pubs j = false → Hh (j + 1) = Hh j := by
            intro j hj q
            obtain ⟨q1, q2⟩ := quiet_of q
            have z := d.pre j hj
            rw [q1] at z
            simp only [List.map_nil, preE, Option.some.injEq, Prod.mk.injEq] at z
            cases qq : isP pn j with
            | true => rw [(d.no j hj qq).1, z.2]
            | false => rw [z.2]; exact AOper.quiet (q2 qq) (d.nq j hj qq q)
          cases hy : (opAt l i).op.heapy with
          | false => exact AOper.free (ql qp) hy base _
          | true =>
            -- the last loud one behind i
            have last : ∀ n, i + n < F + 1 → (Hh (i + n) = Hh i ∧ ∀ j, i ≤ j → j < i + n → sloud l pn pubs j = false) ∨ ∃ q, i < q ∧ q < i + n ∧ sloud l pn pubs q = true ∧ Hh (i + n) = Hh (q + 1) ∧ ∀ j, q < j → j < i + n → sloud l pn pubs j = false := by
              intro n
              induction n with
              | zero => intro _; exact .inl ⟨rfl, fun j h1 h2 => by omega⟩
              | succ n ihn =>
                intro hn
                cases qn : sloud l pn pubs (i + n) with
                | true =>
                  by_cases z : n = 0
                  · subst z; rw [Nat.add_zero] at qn; rw [hq] at qn; cases qn
                  · exact .inr ⟨i + n, by omega, by omega, qn, rfl, fun j h1 h2 => by omega⟩
                | false =>
                  have e6 := quietH (i + n) (by omega) qn
                  rcases ihn (by omega) with ⟨z1, z2⟩ | ⟨q, z1, z2, z3, z4, z5⟩
                  · refine .inl ⟨by rw [← z1]; exact e6, fun j h1 h2 => ?_⟩
                    by_cases y : j = i + n
                    · subst y; exact qn
                    · exact z2 j h1 (by omega)
                  · refine .inr ⟨q, z1, by omega, z3, by rw [← z4]; exact e6, fun j h1 h2 => ?_⟩
                    by_cases y : j = i + n
                    · subst y; exact qn
                    · exact z5 j h1 (by omega)
            have hBi : B i = Hh i := qB.symm
            rcases last (F - i) (by omega) with ⟨z1, _⟩ | ⟨q, z1, z2, z3, z4, z5⟩
            · rw [show i + (F - i) = F by omega] at z1
              rw [z1]; rw [e5, hBi] at base; exact base
            · rw [show i + (F - i) = F by omega] at z2 z4 z5
              rw [z4]
              -- q is the last loud one before the frontier
              have hql : q ∈ loudsOf l pn pubs := by simp only [loudsOf, List.mem_filter, List.mem_range]; exact ⟨by omega, z3⟩
              have hlat : (loudsOf l pn pubs)[((List.range q).filter fun i => sloud l pn pubs i).length]? = some q := louds_at (fun i => sloud l pn pubs i) l.length q (by omega) z3
              have hcl : ((List.range q).filter fun i => sloud l pn pubs i).length + 1 ≤ (loudsOf l pn pubs).length := (List.getElem?_eq_some_iff.1 hlat).1
              have hpt : ptOf (loudsOf l pn pubs) (((List.range q).filter fun i => sloud l pn pubs i).length + 1) = q + 1 := by
                simp only [ptOf, List.getD_eq_getElem?_getD, hlat, Option.getD_some]
              have hR : ∀ i j, j ∈ (reachL [] after).getD i [] → Before after j i := reachL_ok after after [] rfl (fun i j hj => by simp at hj)
              have hlm : ∀ x, x < (loudsOf l pn pubs).length → (loudsOf l pn pubs).getD x 0 < l.length ∧ sloud l pn pubs ((loudsOf l pn pubs).getD x 0) = true ∧ x = ((List.range ((loudsOf l pn pubs).getD x 0)).filter fun i => sloud l pn pubs i).length := by
                intro x hx
                have e1 : (loudsOf l pn pubs)[x]? = some ((loudsOf l pn pubs).getD x 0) := by
                  rw [List.getD_eq_getElem?_getD, List.getElem?_eq_getElem hx]; rfl
                have hm := List.mem_of_getElem? e1
                simp only [loudsOf, List.mem_filter, List.mem_range] at hm
                exact ⟨hm.1, hm.2, louds_lt (fun i => sloud l pn pubs i) l.length x _ e1 hm.1⟩
              have mono : ∀ a b, a ≤ b → ((List.range a).filter fun i => sloud l pn pubs i).length ≤ ((List.range b).filter fun i => sloud l pn pubs i).length := fun a b hab =>
                List.Sublist.length_le (List.Sublist.filter _ (List.range_sublist.2 hab))
              have strict : ∀ a b, a < b → sloud l pn pubs a = true → ((List.range a).filter fun i => sloud l pn pubs i).length < ((List.range b).filter fun i => sloud l pn pubs i).length := fun a b hab ha => by
                have := mono (a + 1) b hab
                rw [List.range_succ, List.filter_append, List.length_append] at this
                simp [ha] at this
                omega
              have hposs : possible (reachL [] after) (loudsOf l pn pubs) i (((List.range q).filter fun i => sloud l pn pubs i).length + 1) = true := by
                simp only [possible, List.all_eq_true, List.mem_range, Bool.and_eq_true, Bool.or_eq_true, Bool.not_eq_true']
                intro x hx
                obtain ⟨y1, y2, y3⟩ := hlm x hx
                refine ⟨?_, ?_⟩
                · by_cases z : (loudsOf l pn pubs).getD x 0 ∈ (reachL [] after).getD i []
                  · right
                    have := (hR _ _ z).lt hpl.edge
                    refine blt_iff.2 ?_
                    have := mono ((loudsOf l pn pubs).getD x 0) q (by omega)
                    omega
                  · left; simpa using z
                · by_cases z : x < ((List.range q).filter fun i => sloud l pn pubs i).length + 1
                  · right
                    have h1 : (loudsOf l pn pubs).getD x 0 ≤ q := by
                      refine Classical.byContradiction fun y => ?_
                      have := strict q ((loudsOf l pn pubs).getD x 0) (by omega) z3
                      omega
                    have h2 := (I.loud _ y1 y2).2 (by omega)
                    have : i ∉ (reachL [] after).getD ((loudsOf l pn pubs).getD x 0) [] := fun y => aft _ (hR _ _ y) h2
                    simpa using this
                  · left
                    cases zz : Nat.blt x (((List.range q).filter fun i => sloud l pn pubs i).length + 1) with
                    | false => rfl
                    | true => exact absurd (blt_iff.1 zz) z
              rcases hpl.cks i hi (by simp [heapyAt, qp, hq, hy]) _ hcl hposs with z | ⟨x, hx, y1, y2⟩
              · exfalso
                have e2 := count_range (fun i => sloud l pn pubs i) l.length i (by omega)
                have : ((List.range q).filter fun i => sloud l pn pubs i).length + 1 = ((List.range i).filter fun i => sloud l pn pubs i).length := by rw [z]; exact e2
                have := mono i q (by omega)
                omega
              · rw [hpt] at y2
                exact operCk_ok (d.ck i (q + 1) hlt qp (by omega) (by omega) ((hcks i (q + 1)).2 ⟨x, hx, y1, y2⟩))
        rw [← AOper.evE_congr ag] at here
        exact AOper.evE_ok (go0_ok P W0) here (next S A B Hh V F ev _ d hF hFl he r hlt (Nat.le_refl _) (fun _ _ => rfl) (fun _ _ => rfl) hl2 a1 a2 a3 (fun p t j hq => by rw [isP_none qp] at hq; cases hq))
    · -- loud: the frontier
      rw [qsteps_drop hi] at r
      simp only [drawC] at r
      obtain ⟨A1, B1, hpre, r⟩ := preC_ok r
      have run := fun K' z => preE_run (K := K') (st := st) hpre (by
        rw [hfs]
        have := hpl.nodup i hi
        exact (List.nodup_append.1 this).2.1) (fun x hx => by
        obtain ⟨t, tp, rfl⟩ := List.mem_map.1 hx
        obtain ⟨u, p, hu, hqu, hdu, hbu⟩ := hpl.pub i t hi tp
        simp only [mkOf_ok hpl hu hqu hdu]
        have hud := bef u hbu
        have huF := I.lt u hud
        rw [I.s3 u hud p t i hqu hdu hi tp hni]
        refine APend.obj_congr fun t' ht' => ?_
        have tn : t' ∉ pubs.getD u [] := fun z => by
          have := (hpl.prd u p t' u hu hqu ht' hu ((mw u t').2 (.inr z))).lt hpl.edge
          omega
        rw [fA u t' huF tn]
        by_cases q : ∃ j, j < l.length ∧ t' ∈ wrs l pn pubs j
        · obtain ⟨j, hj, ej⟩ := q
          have z := (hpl.prd u p t' j hu hqu ht' hj ej).lt hpl.edge
          rw [Va j t' (by omega) ej u z (by omega), Va j t' (by omega) ej i (by omega) (Nat.le_refl _)]
        · have q' : ∀ j, j < l.length → t' ∉ wrs l pn pubs j := fun j hj z => q ⟨j, hj, z⟩
          rw [Vb t' u (by omega) (fun j hj => q' j (by omega)), Vb t' i (Nat.le_refl _) (fun j hj => q' j (by omega))]) z
      rw [hfs] at run
      rw [hH]
      refine run _ ?_
      have hl2 : ∀ F2, i < F2 → F2 ≤ l.length → (∀ j, i + 1 ≤ j → j < F2 → sloud l pn pubs j = false) → ∀ j, j < l.length → sloud l pn pubs j = true → (j ∈ i :: done ↔ j < F2) := fun F2 h1 h2 hno j hj hjl => by
        rw [List.mem_cons]
        constructor
        · rintro (z | z)
          · omega
          · have := I.lt j z; omega
        · intro z
          by_cases y : j = i
          · exact .inl y
          · right
            refine (I.loud j hj hjl).2 ?_
            rcases Nat.lt_or_ge j i with w | w
            · exact w
            · exfalso
              have := hno j (by omega) z
              rw [hjl] at this; cases this
      cases qp : isP pn i with
      | true =>
        obtain ⟨p, hpi⟩ := isP_true qp
        obtain ⟨t0, ht0, _⟩ := hpl.pdst i p hi hpi
        rw [hpi] at r
        simp only at r
        obtain ⟨r, hoo⟩ := pendP_ok r
        obtain ⟨r, hc⟩ := cksP_ok r
        rw [hpi, ht0]
        simp only
        have dd := d.more hpre he (v := .any) (h1 := B1) (fun z => by rw [qp] at z; cases z) (fun _ => rfl) (fun p' hp' => by rw [hpi] at hp'; cases hp'; exact hoo) hc
        obtain ⟨F', S', A', B', Hh', V', ev', z1, z2, z3, z4, z5, z6, z7, z8, z9⟩ := adv (l.length - (i + 1)) (i + 1) _ _ _ _ _ _ (by omega) dd (he.more' qp) (by rw [upd_eq, upd_eq, qp]; exact r)
        obtain ⟨o, ho, a1, a2, a3, a4⟩ := afterP p t0 hpi ht0 A1 S' A' B1 hpre hoo (by rw [(z8 (i + 1) (Nat.le_refl _)).1, upd_eq, qp]) (by rw [(z9 i (by omega)).1, upd_eq])
        unfold APend.wp
        rw [ho]
        have hB : B1.list = (Hh' F').list := by
          have : ∀ n, i + 1 + n ≤ F' → Hh' (i + 1 + n) = Hh' (i + 1) := by
            intro n
            induction n with
            | zero => intro _; rfl
            | succ n ihn =>
              intro hn
              rw [← ihn (by omega)]
              have hj := z7 (i + 1 + n) (by omega) (by omega)
              obtain ⟨q1, q2⟩ := quiet_of hj
              have y := z3.pre (i + 1 + n) (by omega)
              rw [q1] at y
              simp only [List.map_nil, preE, Option.some.injEq, Prod.mk.injEq] at y
              cases qq : isP pn (i + 1 + n) with
              | true => rw [show i + 1 + (n + 1) = i + 1 + n + 1 by omega, (z3.no _ (by omega) qq).1, y.2]
              | false => rw [show i + 1 + (n + 1) = i + 1 + n + 1 by omega, y.2]; exact AOper.quiet (q2 qq) (z3.nq _ (by omega) qq hj)
          have h2 := this (F' - (i + 1)) (by omega)
          rw [show i + 1 + (F' - (i + 1)) = F' by omega] at h2
          rw [h2, (z8 (i + 1) (Nat.le_refl _)).2, upd_eq]
        simp only
        rw [hB]
        exact next S' A' B' Hh' V' F' ev' _ z3 z2 z6 z4 z5 (by omega) (by omega) (fun j hj => by rw [(z8 j (by omega)).1, upd_ne (by omega)]) (fun j hj => by rw [(z9 j (by omega)).1, upd_ne (by omega)]) (hl2 F' (by omega) z2 z7) a1 a2 a3 a4
      | false =>
        rw [isP_none qp] at r
        simp only at r
        rw [isP_none qp]
        simp only
        refine operJ_wp (agree A1 B1 hpre qp) (fun v h' r => ?_) r
        obtain ⟨r, hc⟩ := cksP_ok r
        have dd := d.more hpre he (v := v) (h1 := h') (fun _ z => by rw [hq] at z; cases z) (fun z => by rw [qp] at z; cases z) (fun p' hp' => by rw [isP_none qp] at hp'; cases hp') hc
        obtain ⟨F', S', A', B', Hh', V', ev', z1, z2, z3, z4, z5, z6, z7, z8, z9⟩ := adv (l.length - (i + 1)) (i + 1) _ _ _ _ _ _ (by omega) dd he.more (by rw [upd_eq, upd_eq, qp]; exact r)
        have hB : h'.list = (Hh' F').list := by
          have : ∀ n, i + 1 + n ≤ F' → Hh' (i + 1 + n) = Hh' (i + 1) := by
            intro n
            induction n with
            | zero => intro _; rfl
            | succ n ihn =>
              intro hn
              rw [← ihn (by omega)]
              have hj := z7 (i + 1 + n) (by omega) (by omega)
              obtain ⟨q1, q2⟩ := quiet_of hj
              have y := z3.pre (i + 1 + n) (by omega)
              rw [q1] at y
              simp only [List.map_nil, preE, Option.some.injEq, Prod.mk.injEq] at y
              cases qq : isP pn (i + 1 + n) with
              | true => rw [show i + 1 + (n + 1) = i + 1 + n + 1 by omega, (z3.no _ (by omega) qq).1, y.2]
              | false => rw [show i + 1 + (n + 1) = i + 1 + n + 1 by omega, y.2]; exact AOper.quiet (q2 qq) (z3.nq _ (by omega) qq hj)
          have h2 := this (F' - (i + 1)) (by omega)
          rw [show i + 1 + (F' - (i + 1)) = F' by omega] at h2
          rw [h2, (z8 (i + 1) (Nat.le_refl _)).2, upd_eq]
        rw [hB]
        obtain ⟨a1, a2, a3⟩ := afterN qp A1 v S' (by rw [(z8 (i + 1) (Nat.le_refl _)).1, upd_eq, qp])
        exact next S' A' B' Hh' V' F' ev' _ z3 z2 z6 z4 z5 (by omega) (by omega) (fun j hj => by rw [(z8 j (by omega)).1, upd_ne (by omega)]) (fun j hj => by rw [(z9 j (by omega)).1, upd_ne (by omega)]) (hl2 F' (by omega) z2 z7) a1 a2 a3 (fun p t j hq => by rw [isP_none qp] at hq; cases hq)
theorem drawC_ok {l : List AOper} {after : List (List Nat)} {pn : List (Option APend)} {pubs : List (List Nat)} {s : Tr AV} {h : EH} {k : Tr AV → EH → Prop} {K : AS → AHeap → Prop}
    (hd : dOk l after pn pubs = true) (hk : ∀ s h, k s h → K (mkS s) h.list) (e : drawC P W0 (dPlan l after pn pubs).cks 0 (dPlan l after pn pubs).steps [] k s h) : awpAny P W0 l after pn pubs K l.length [] (mkS s) h.list := by
  simp only [dOk, Bool.and_eq_true] at hd
  obtain ⟨hp, hplan, hf⟩ := hd
  have hlen : (dPlan l after pn pubs).l.length = l.length := by
    simp only [permOk, Bool.and_eq_true, Nat.beq_eq] at hp
    simp [dPlan, permL, hp.1.1.1.1]
  have hpa := perm_any (P := P) (W0 := W0) (pn := pn) (pubs := pubs) hp K l.length [] (fun i hi => by simp at hi)
  rw [← hpa]
  have hR : ∀ i j, j ∈ (reachL [] (dPlan l after pn pubs).after).getD i [] → Before (dPlan l after pn pubs).after j i := reachL_ok _ _ [] rfl (fun i j hj => by simp at hj)
  have hcks : ∀ i p, hasCk (dPlan l after pn pubs).cks i p = true ↔ ∃ c ∈ (dPlan l after pn pubs).cks, c.1 = i ∧ p ∈ c.2 := by
    intro i p
    simp only [hasCk, List.any_eq_true, Bool.and_eq_true, Nat.beq_eq, memB_iff]
  have hfst : ∀ i j, i < (dPlan l after pn pubs).l.length → j < i → sloud (dPlan l after pn pubs).l (dPlan l after pn pubs).pn (dPlan l after pn pubs).pubs i = false → sloud (dPlan l after pn pubs).l (dPlan l after pn pubs).pn (dPlan l after pn pubs).pubs j = true → Before (dPlan l after pn pubs).after j i := by
    intro i j hi hj h1 h2
    simp only [DPlan.first, List.all_eq_true, List.mem_range, Bool.or_eq_true, Bool.not_eq_true'] at hf
    rcases hf i hi with q | q
    · rw [h1] at q; cases q
    · rcases q j hj with q | q
      · rw [h2] at q; cases q
      · exact hR i j (by simpa using q)
  have base : DF (dPlan l after pn pubs).l (dPlan l after pn pubs).pn (dPlan l after pn pubs).pubs (dPlan l after pn pubs).cks s (fun _ => s) (fun _ => s) (fun _ => h) (fun _ => h) (fun _ => .any) 0 := ⟨rfl, fun i hi => by omega, fun i hi => by omega, fun i hi => by omega, fun i hi => by omega, fun i p hi => by omega, fun i p hi => by omega⟩
  obtain ⟨F', S', A', B', Hh', V', ev', z1, z2, z3, z4, z5, z6, z7, z8, z9⟩ := adv (P := P) (W0 := W0) (k := k) (dPlan l after pn pubs).l.length 0 _ _ _ _ _ [] rfl base (fun i hi => by omega) (by simpa [DPlan.steps] using e)
  have hB : h = Hh' F' := by
    have : ∀ n, n ≤ F' → Hh' n = Hh' 0 := by
      intro n
      induction n with
      | zero => intro _; rfl
      | succ n ihn =>
        intro hn
        rw [← ihn (by omega)]
        have hj := z7 n (by omega) (by omega)
        obtain ⟨q1, q2⟩ := quiet_of hj
        have y := z3.pre n (by omega)
        rw [q1] at y
        simp only [List.map_nil, preE, Option.some.injEq, Prod.mk.injEq] at y
        cases qq : isP (dPlan l after pn pubs).pn n with
        | true => rw [(z3.no _ (by omega) qq).1, y.2]
        | false => rw [y.2]; exact AOper.quiet (q2 qq) (z3.nq _ (by omega) qq hj)
    rw [this F' (Nat.le_refl _), (z8 0 (Nat.le_refl _)).2]
  rw [hB]
  have := drawC_main (P := P) (W0 := W0) (planOk_ok hplan) hcks hfst hk l.length [] (mkS s) (Hh' F').list S' A' B' Hh' V' F' ev' (by simp [hlen]) z3 z2 z6 z4 z5 ⟨by simp, List.nodup_nil, by simp, (fun j hj hjl => by
    constructor
    · intro q; simp at q
    · intro q
      have := z7 j (by omega) q
      rw [hjl] at this; cases this), rfl, by simp, fun t _ _ => rfl, by simp, fun t q => absurd rfl q⟩ rfl
  exact this
end
end Go.Qa
