/- The abstract machine: the run as a tree of cases. The same evaluator, told what comes behind: where a condition is not known, both ways are gone to the end. -/
import Derived.Test.YtanfmlmcddanjaaGreatDoorRQaMemo
set_option linter.all false
namespace Go.Qa
open Go Go.RowKit

section
variable {R : Type}
noncomputable def optC {α : Type} (bd : R) (x : Option α) (k : α → R) : R :=
  match x with
  | some a => k a
  | none => bd
abbrev GoC (R : Type) := Bool → Nat → List AV → EH → (AV → EH → R) → R
def GoCOk (bd : R) (go : GoE) (goC : GoC R) : Prop := ∀ b f args h k, goC b f args h k = optC bd (go b f args h) fun p => k p.1 p.2

theorem sel_app {α β : Type} (f : α → β) (b : Bool) (x y : α) : sel b (f x) (f y) = f (sel b x y) := by cases b <;> rfl
theorem optC_sel {α : Type} (bd : R) (b : Bool) (x : Option α) (k : α → R) : optC bd (sel b x none) k = sel b (optC bd x k) bd := by cases b <;> rfl

noncomputable def PExp.evC (bd : R) (x : PExp) (st : AS) (h : EH) (k : AV → R) : R :=
  match x with
  | .pick c a b => match st.ev c with
    | .bool t => sel t (k (st.ev a)) (k (st.ev b))
    | _ => bd
  | .idxS x i => match st.ev x, (st.ev i).asI with
    | .str s, some n => sel (decide (0 ≤ n ∧ n < s.length)) (k (.int .u8 (s.getD n.toNat 0).toNat)) bd
    | _, _ => bd
  | x => optC bd (x.evE st h) k
theorem PExp.evC_eq (bd : R) (x : PExp) (st : AS) (h : EH) (k : AV → R) : x.evC bd st h k = optC bd (x.evE st h) k := by
  cases x with
  | pick c a b =>
    simp only [PExp.evC, PExp.evE, PExp.ev]
    cases st.ev c with
    | bool t => cases t <;> rfl
    | _ => rfl
  | idxS x i =>
    simp only [PExp.evC, PExp.evE, PExp.ev]
    cases st.ev x with
    | str s =>
      cases (st.ev i).asI with
      | some n =>
        simp only [sel_eq, decide_eq_true_eq]
        split <;> rfl
      | none => rfl
    | _ => rfl
  | _ => rfl
noncomputable def callC (bd : R) (go : GoC R) (f : AV) (args : List AV) (h : EH) (k : AV → EH → R) : R :=
  match f with
  | .fn (.func g) first captured => sel ((first ++ args ++ captured).all AV.glob) (go true g (first ++ args ++ captured) h k) bd
  | .yfn b => sel (args.all AV.glob) (go false b args h k) bd
  | _ => bd
theorem callC_eq {bd : R} {go : GoE} {goC : GoC R} (hg : GoCOk bd go goC) (f : AV) (args : List AV) (h : EH) (k : AV → EH → R) : callC bd goC f args h k = optC bd (callE go f args h) fun p => k p.1 p.2 := by
  cases f with
  | fn f first captured =>
    cases f with
    | func g =>
      simp only [callC, callE, optC_sel]
      rw [hg true g (first ++ args ++ captured) h k]
    | _ => rfl
  | yfn b =>
    simp only [callC, callE, optC_sel]
    rw [hg false b args h k]
  | _ => rfl
noncomputable def EOp.evC (bd : R) (go : GoC R) (op : EOp) (st : AS) (h : EH) (k : AV → EH → R) : R :=
  match op with
  | .call f args => callC bd go (st.ev f) (args.map st.ev) h k
  | op => optC bd (op.evE (fun _ _ _ _ => none) st h) fun p => k p.1 p.2
theorem EOp.evC_eq {bd : R} {go : GoE} {goC : GoC R} (hg : GoCOk bd go goC) (op : EOp) (st : AS) (h : EH) (k : AV → EH → R) : op.evC bd goC st h k = optC bd (op.evE go st h) fun p => k p.1 p.2 := by
  cases op with
  | call f args => exact callC_eq hg _ _ _ _
  | _ => rfl
noncomputable def AOp.evC (bd : R) (go : GoC R) (op : AOp) (st : AS) (h : EH) (k : AV → EH → R) : R :=
  match op with
  | .pu e => e.evC bd st h fun r => k r h
  | .px e => optC bd (e.evE st h) fun r => k r h
  | .ef e => e.evC bd go st h k
theorem AOp.evC_eq {bd : R} {go : GoE} {goC : GoC R} (hg : GoCOk bd go goC) (op : AOp) (st : AS) (h : EH) (k : AV → EH → R) : op.evC bd goC st h k = optC bd (op.evE go st h) fun p => k p.1 p.2 := by
  cases op with
  | pu e =>
    simp only [AOp.evC, AOp.evE, PExp.evC_eq]
    cases e.evE st h <;> rfl
  | px e =>
    simp only [AOp.evC, AOp.evE]
    cases e.evE st h <;> rfl
  | ef e => exact EOp.evC_eq hg _ _ _ _
noncomputable def AOper.evC (bd : R) (go : GoC R) (o : AOper) (st : AS) (h : EH) (k : AV → EH → R) : R :=
  match o.guard with
  | none => o.op.evC bd go st h k
  | some (t, want) => match st.s t with
    | .bool b => sel (b == want) (o.op.evC bd go st h k) (k (.pl undef) h)
    | .pl (.tuple _) => k (.pl undef) h
    | _ => bd
theorem AOper.evC_eq {bd : R} {go : GoE} {goC : GoC R} (hg : GoCOk bd go goC) (o : AOper) (st : AS) (h : EH) (k : AV → EH → R) : o.evC bd goC st h k = optC bd (o.evE go st h) fun p => k p.1 p.2 := by
  unfold AOper.evC AOper.evE
  cases o.guard with
  | none => exact AOp.evC_eq hg _ _ _ _
  | some g =>
    simp only
    cases st.s g.1 with
    | bool b => simp only [AOp.evC_eq hg]; cases (b == g.2) <;> rfl
    | pl v => cases v <;> rfl
    | _ => rfl

noncomputable def evOpsC (bd : R) (go : GoC R) : List AOper → Tr AV → EH → (Tr AV → EH → R) → R
  | [], s, h, k => k s h
  | o :: l, s, h, k => o.evC bd go (mkS s) h fun v h' => evOpsC bd go l (putO s o.dst v) h' k
/-- What comes behind a piece of code. -/
noncomputable def ER.goC (bd : R) (r : ER) (k : AExit → Tr AV → EH → R) : R :=
  match r with
  | .ok x s h => k x s h
  | .bad => bd
theorem evOpsC_eq {bd : R} {go : GoE} {goC : GoC R} (hg : GoCOk bd go goC) : ∀ (l : List AOper) (s : Tr AV) (h : EH) (k : AExit → Tr AV → EH → R), evOpsC bd goC l s h (k .normal) = (evOps go l s h).goC bd k
  | [], s, h, k => rfl
  | o :: l, s, h, k => by
    rw [evOps_cons]
    simp only [evOpsC, AOper.evC_eq hg]
    cases o.evE go (mkS s) h with
    | none => rfl
    | some p => exact evOpsC_eq hg l _ _ k
noncomputable def evTC (bd : R) (go : GoC R) : List DStep → Tr AV → EH → (Tr AV → Trace → R) → R
  | [], s, h, k => k s []
  | d :: r, s, h, k => match preE s d.pre s h with
    | some (s1, h1) => match d.op with
      | some o => o.evC bd go (mkS s1) h1 fun v h' => evTC bd go r (putO s1 o.dst v) h' fun sf tr => k sf ((v, h', s1) :: tr)
      | none => evTC bd go r s1 h1 fun sf tr => k sf ((.any, h1, s1) :: tr)
    | none => bd
theorem evTC_eq {bd : R} {go : GoE} {goC : GoC R} (hg : GoCOk bd go goC) : ∀ (l : List DStep) (s : Tr AV) (h : EH) (k : Tr AV → Trace → R), evTC bd goC l s h k = optC bd (evT go l s h) fun p => k p.1 p.2
  | [], s, h, k => rfl
  | d :: r, s, h, k => by
    simp only [evTC, evT]
    cases preE s d.pre s h with
    | none => rfl
    | some p =>
      simp only
      cases d.op with
      | none =>
        simp only [evTC_eq hg r]
        cases evT go r p.1 p.2 <;> rfl
      | some o =>
        simp only [AOper.evC_eq hg]
        cases o.evE go (mkS p.1) p.2 with
        | none => rfl
        | some q =>
          simp only [optC, fAV_eq, fEH_eq, putOK_eq]
          have := evTC_eq hg r (putO p.1 o.dst q.1) q.2 fun sf tr => k sf ((q.1, q.2, p.1) :: tr)
          simp only [optC] at this
          rw [this]
          cases evT go r (putO p.1 o.dst q.1) q.2 <;> rfl
/-- Draws: what is asked at other points of the heap is asked of the plain evaluator. -/
noncomputable def evDrawC (bd : R) (go : GoE) (goC : GoC R) (l : List DStep) (cks : List (Nat × List Nat)) (s : Tr AV) (h : EH) (k : Tr AV → EH → R) : R :=
  evTC bd goC l s h fun sf tr => sel (cks.all fun c => c.2.all fun p => ckAt go (stAt l c.1) (stPt tr c.1) (valPt tr c.1) (heapPt h tr p)) (k sf (heapPt h tr tr.length)) bd
theorem evDrawC_eq {bd : R} {go : GoE} {goC : GoC R} (hg : GoCOk bd go goC) (l : List DStep) (cks : List (Nat × List Nat)) (s : Tr AV) (h : EH) (k : Tr AV → EH → R) : evDrawC bd go goC l cks s h k = optC bd (evDraw go l cks s h) fun p => k p.1 p.2 := by
  unfold evDrawC evDraw
  rw [evTC_eq hg]
  cases evT go l s h with
  | none => rfl
  | some p => simp only [optC_sel]; rfl

abbrev RecC (R : Type) := ECode → Tr AV → EH → (AExit → Tr AV → EH → R) → R
noncomputable def goOfC (bd : R) (P : Program) (FT : Nat → Option EEnt) (rec : ECode → Tr AV → EH → ER) (recC : RecC R) : GoC R := fun isf f args h k =>
  sel isf (match FT f with
  | some (.fn ef) => sel (Nat.ble args.length ef.n) (recC ef.code (initT args 0 .e) h fun x s' h' => match x with
    | .exit _ => bd
    | _ => optC bd (resE ef.res s' h') fun r => k r h') bd
  | some (.prim p) => optC bd (p args h) fun q => k q.1 q.2
  | none => bd) (optC bd (roundE P rec f args h) fun q => k q.1 q.2)
theorem goOfC_ok {bd : R} {P : Program} {FT : Nat → Option EEnt} {rec : ECode → Tr AV → EH → ER} {recC : RecC R} (hr : ∀ c s h k, recC c s h k = (rec c s h).goC bd k) : GoCOk bd (goOf P FT rec) (goOfC bd P FT rec recC) := by
  intro b f args h k
  unfold goOfC goOf
  cases b with
  | false => rfl
  | true =>
    simp only [sel_true]
    cases FT f with
    | none => rfl
    | some e =>
      cases e with
      | prim p => rfl
      | fn ef =>
        simp only [hr, optC_sel]
        congr 1
        cases rec ef.code (initT args 0 .e) h with
        | bad => rfl
        | ok x s' h' =>
          cases x with
          | exit i => rfl
          | _ =>
            simp only [ER.goC]
            cases resE ef.res s' h' <;> rfl
noncomputable def aeC (bd : R) (P : Program) (FT : Nat → Option EEnt) : Nat → RecC R
  | 0, _, _, _, _ => bd
  | n + 1, c, s, h, k => match c with
    | .skip => k .normal s h
    | .ops l => evOpsC bd (goOfC bd P FT (ae P FT n) (aeC bd P FT n)) l s h (k .normal)
    | .draw l cks => evDrawC bd (goOf P FT (ae P FT n)) (goOfC bd P FT (ae P FT n) (aeC bd P FT n)) l cks s h (k .normal)
    | .seq a b => aeC bd P FT n a s h fun x s' h' => match x with
      | .normal => aeC bd P FT n b s' h' k
      | x => k x s' h'
    | .cond c x y => match (mkS s).ev c with
      | .bool b => sel b (aeC bd P FT n x s h k) (aeC bd P FT n y s h k)
      | _ => bd
    | .block id c => aeC bd P FT n c s h fun x s' h' => match x with
      | .exit i => sel (Nat.beq i id) (k .normal s' h') (k (.exit i) s' h')
      | x => k x s' h'
    | .loop c => aeC bd P FT n c s h fun x s' h' => match x with
      | .normal => aeC bd P FT n (.loop c) s' h' k
      | x => k x s' h'
    | .exit id => k (.exit id) s h
    | .ret => k .ret s h
    | .rangef N f ps asg body => (rangeFE (goOf P FT (ae P FT n)) N ((mkS s).ev f) ps asg body s h).goC bd k
    | .no => bd
theorem ER.then_goC (bd : R) (r : ER) (f : Tr AV → EH → ER) (k : AExit → Tr AV → EH → R) : (r.then f).goC bd k = r.goC bd fun x s' h' => match x with
      | .normal => (f s' h').goC bd k
      | x => k x s' h' := by
  cases r with
  | bad => rfl
  | ok x s h => cases x <;> rfl
theorem aeC_eq (bd : R) (P : Program) (FT : Nat → Option EEnt) : ∀ (n : Nat) (c : ECode) (s : Tr AV) (h : EH) (k : AExit → Tr AV → EH → R), aeC bd P FT n c s h k = (ae P FT n c s h).goC bd k
  | 0, _, _, _, _ => rfl
  | n + 1, c, s, h, k => by
    have ih := aeC_eq bd P FT n
    have hg := goOfC_ok (P := P) (FT := FT) (rec := ae P FT n) (recC := aeC bd P FT n) ih
    rw [ae_succ]
    cases c with
    | skip => rfl
    | ops l => exact evOpsC_eq hg l s h k
    | draw l cks =>
      simp only [aeC]
      rw [evDrawC_eq hg]
      cases evDraw (goOf P FT (ae P FT n)) l cks s h <;> rfl
    | seq a b =>
      simp only [aeC, ih, ER.then_goC]
    | cond c x y =>
      simp only [aeC, ih]
      cases (mkS s).ev c with
      | bool b => cases b <;> rfl
      | _ => rfl
    | block id c =>
      simp only [aeC, ih]
      cases ae P FT n c s h with
      | bad => rfl
      | ok x s' h' =>
        cases x with
        | exit i =>
          simp only [ER.goC, ER.inBlock]
          cases Nat.beq i id <;> rfl
        | _ => rfl
    | loop c =>
      simp only [aeC, ih, ER.then_goC]
    | exit id => rfl
    | ret => rfl
    | rangef N f ps asg body => rfl
    | no => rfl

/-- A call's answer, as a tree of cases. -/
noncomputable def callT (P : Program) (FT : Nat → Option EEnt) (n : Nat) (f : FuncId) (args : List AV) (k : AV → R) (bd : R) : R :=
  goOfC bd P FT (ae P FT n) (aeC bd P FT n) true f args ⟨.e, 0⟩ fun r _ => k r
theorem callT_eq (P : Program) (FT : Nat → Option EEnt) (n : Nat) (f : FuncId) (args : List AV) (k : AV → R) (bd : R) : callT P FT n f args k bd = optC bd (goOf P FT (ae P FT n) true f args ⟨.e, 0⟩) fun p => k p.1 :=
  goOfC_ok (aeC_eq bd P FT n) _ _ _ _ _
end
/-- The answer is the recorded one, whatever way the conditions go. -/
noncomputable def treeRun (P : Program) (FT : Nat → Option EEnt) (n : Nat) (f : FuncId) (args : List AV) (lit : AV) : Bool :=
  callT P FT n f args (fun r => sameU 1000 lit r) false
theorem tree_knows {P : Program} {FT : Nat → Option EEnt} (hft : ∀ W, FTOk P W FT) {n : Nat} {f : FuncId} {args : List AV} {lit : AV} (h1 : args.all (treeF 100) = true) (h2 : treeF 100 lit = true) (e : treeRun P FT n f args lit = true) : Knows P f args lit := by
  refine memo_knows hft (n := n) ?_
  unfold treeRun at e
  rw [callT_eq] at e
  unfold memoRun
  rw [h1, h2]
  cases hq : goOf P FT (ae P FT n) true f args ⟨.e, 0⟩ with
  | none => rw [hq] at e; exact e
  | some p => rw [hq] at e; exact e
theorem sel_both {α : Type} (b : Bool) (x : α) : sel b x x = x := by cases b <;> rfl
end Go.Qa
