/- The abstract machine: a run that the kernel can reckon: code and calls. -/
import Derived.Test.YtnaahdcahghldaaGreatDoorQs6
set_option linter.all false
namespace Go.Qa
open Go Go.RowKit

inductive ECode where
  | skip
  | ops (l : List AOper)
  | draw (l : List DStep) (cks : List (Nat × List Nat))
  | seq (a b : ECode)
  | cond (c : Opd) (x y : ECode)
  | block (id : Nat) (c : ECode)
  | loop (c : ECode)
  | exit (id : Nat)
  | ret
  | rangef (N : Nat) (f : Opd) (ps : List Nat) (asg body : Code)
  | no
  deriving Inhabited
def toE : ACode → Option ECode
  | .skip => some .skip
  | .ops l => some (.ops l)
  | .draw l after pn pubs => if planOk l after pn pubs (cksOf l after pn pubs) then some (.draw (stepsOf l pn pubs) (cksOf l after pn pubs)) else some .no
  | .seq a b => (toE a).bind fun a => (toE b).map fun b => .seq a b
  | .cond c x y => (toE x).bind fun x => (toE y).map fun y => .cond c x y
  | .block id c => (toE c).map fun c => .block id c
  | .loop c => (toE c).map fun c => .loop c
  | .exit id => some (.exit id)
  | .ret => some .ret
  | .rangef N f ps asg body => some (.rangef N f ps asg body)
  | .no => some .no
structure EFun where
  n : Nat
  res : List ARes
  code : ECode
  deriving Inhabited
def eFunc (P : Program) (hs : List Nat) (fn : Func) : Option EFun := (cFunc P hs fn).bind fun af => (toE af.code).map fun c => ⟨af.n, af.res, c⟩
inductive EEnt where
  | fn (f : EFun)
  | prim (p : List AV → EH → Option (AV × EH))
inductive ER where
  | bad
  | ok (x : AExit) (s : Tr AV) (h : EH)

noncomputable def initT (args : List AV) : Nat → Tr AV → Tr AV :=
  List.rec (motive := fun _ => Nat → Tr AV → Tr AV) (fun _ t => t) (fun a _ ih i t => ih (i + 1) (t.put i a)) args
theorem initT_get : ∀ (args : List AV) (i : Nat) (t : Tr AV) (j : Nat), (initT args i t).get j = if i ≤ j ∧ j < i + args.length then args[j - i]? else t.get j
  | [], i, t, j => by
    show t.get j = _
    rw [if_neg (by simp)]
  | a :: r, i, t, j => by
    show (initT r (i + 1) (t.put i a)).get j = _
    rw [initT_get r, Tr.get_put]
    simp only [List.length_cons]
    by_cases e : j = i
    · subst e
      rw [if_neg (by omega), if_pos rfl, if_pos (by omega)]; simp
    · by_cases q : i + 1 ≤ j ∧ j < i + 1 + r.length
      · rw [if_pos q, if_pos (by omega), show j - i = (j - (i + 1)) + 1 by omega, List.getElem?_cons_succ]
      · rw [if_neg q, if_neg e, if_neg (by omega)]
theorem mkS_initT (args : List AV) : mkS (initT args 0 .e) = .init args := by
  simp only [mkS, AS.init, AS.mk.injEq, and_true]
  funext j
  rw [initT_get, Tr.get_e, List.getD_eq_getElem?_getD]
  split
  · simp
  · rename_i q
    rw [List.getElem?_eq_none (by omega)]

noncomputable def ARes.evE (r : ARes) (s : Tr AV) (h : EH) : Option AV :=
  match r with
  | .t i => sel ((mkS s).s i).glob (some ((mkS s).s i)) none
  | .c i n => (PExp.load n (.t i)).evE (mkS s) h
noncomputable def ressE (s : Tr AV) (h : EH) : List ARes → Option (List AV)
  | [] => some []
  | r :: rs => match r.evE s h with
    | some x => match ressE s h rs with
      | some xs => some (x :: xs)
      | none => none
    | none => none
noncomputable def resE (rs : List ARes) (s : Tr AV) (h : EH) : Option AV :=
  match ressE s h rs with
  | some [x] => some x
  | some xs => some (.tup xs)
  | none => none
theorem ARes.evE_ok {r : ARes} {s : Tr AV} {h : EH} {x : AV} (e : r.evE s h = some x) : r.ev (mkS s) h.list = some x := by
  cases r with
  | t i =>
    obtain ⟨q, e⟩ := sel_some e
    simp only [ARes.ev, q, if_true]; exact e
  | c i n => exact PExp.evE_ok e
theorem ressE_ok {s : Tr AV} {h : EH} : ∀ {rs : List ARes} {xs : List AV}, ressE s h rs = some xs → rs.mapM (fun r => r.ev (mkS s) h.list) = some xs
  | [], xs, e => by cases e; rfl
  | r :: rs, xs, e => by
    simp only [ressE] at e
    split at e
    · rename_i x hx
      split at e
      · rename_i ys hy
        cases e
        simp [List.mapM_cons, ARes.evE_ok hx, ressE_ok hy]
      · cases e
    · cases e
theorem resE_ok {rs : List ARes} {s : Tr AV} {h : EH} {x : AV} (e : resE rs s h = some x) : resAV rs (mkS s) h.list = some x := by
  unfold resE at e
  unfold resAV
  split at e
  · rename_i y hy
    cases e
    have := ressE_ok hy
    split
    · rename_i r
      cases hr : r.ev (mkS s) h.list with
      | none => simp [hr] at this
      | some z => simp [hr] at this; rw [this]
    · rename_i q
      have hl := (mapM_get this).1
      obtain ⟨a, ha⟩ := List.length_eq_one_iff.1 (show rs.length = 1 by simpa using hl.symm)
      exact absurd ha (q a)
  · rename_i xs hx q
    cases e
    have := ressE_ok q
    split
    · rename_i r
      have hl := (mapM_get this).1
      obtain ⟨a, ha⟩ := List.length_eq_one_iff.1 (show xs.length = 1 by simpa using hl)
      exact absurd ha (hx a)
    · rw [this]; rfl
  · cases e

noncomputable def evOps (go : GoE) (l : List AOper) : Tr AV → EH → ER :=
  List.rec (motive := fun _ => Tr AV → EH → ER) (fun s h => .ok .normal s h)
    (fun o _ ih s h => match o.evE go (mkS s) h with
      | some (v, h') => fAV v fun v => fEH h' fun h' => putOK s o.dst v fun s => ih s h'
      | none => .bad) l
theorem evOps_nil (go : GoE) (s : Tr AV) (h : EH) : evOps go [] s h = .ok .normal s h := rfl
theorem evOps_cons (go : GoE) (o : AOper) (l : List AOper) (s : Tr AV) (h : EH) : evOps go (o :: l) s h = match o.evE go (mkS s) h with
      | some (v, h') => evOps go l (putO s o.dst v) h'
      | none => .bad := by
  show (match o.evE go (mkS s) h with
      | some (v, h') => fAV v fun v => fEH h' fun h' => putOK s o.dst v fun s => evOps go l s h'
      | none => .bad) = _
  cases o.evE go (mkS s) h with
  | none => rfl
  | some p => simp only [fAV_eq, fEH_eq, putOK_eq]
/-- The slots of a round. -/
noncomputable def roundT (ss : List AV) (ps : List Nat) (args : List AV) : Tr AV := (ps.zip args).foldl (fun t p => t.put p.1 p.2) (initT ss 0 .e)
theorem mkS_roundT (ss : List AV) (ps : List Nat) (args : List AV) : mkS (roundT ss ps args) = roundS ss ps args := by
  have key : ∀ (l : List (Nat × AV)) (t : Tr AV), mkS (l.foldl (fun t p => t.put p.1 p.2) t) = l.foldl (fun st p => st.set (some p.1) p.2) (mkS t) := by
    intro l
    induction l with
    | nil => intro t; rfl
    | cons p l ih =>
      intro t
      have := mkS_putO t (some p.1) p.2
      simp only [putO] at this
      rw [List.foldl_cons, List.foldl_cons, ih, this]
  unfold roundT roundS
  rw [key, mkS_initT]
  rfl
noncomputable def endE (b : Nat) (e : AExit) (h : EH) : Option (AV × EH) :=
  match h.get b with
  | some (.loop true ss ps asg body _) => match e with
    | .normal => some (.bool true, h.set b (.loop false ss ps asg body none))
    | .ret => some (.bool false, h.set b (.loop false ss ps asg body (some .ret)))
    | .exit id => some (.bool false, h.set b (.loop false ss ps asg body (some (.exit id))))
  | _ => none
noncomputable def roundE (P : Program) (rec : ECode → Tr AV → EH → ER) (b : Nat) (args : List AV) (h : EH) : Option (AV × EH) :=
  match h.get b with
  | some (.loop false ss ps asg body none) => sel (codeCalm asg && codeCalm body && Nat.beq args.length ps.length) (match (cCode P ss.length (List.range ss.length) asg).bind toE, (cCode P ss.length (List.range ss.length) body).bind toE with
    | some ea, some eb => match rec ea (roundT ss ps args) h with
      | .ok .normal s1 h1 => match h1.get b with
        | some (.loop false ss1 ps1 asg1 body1 none) => match rec eb s1 (h1.set b (.loop true ss1 ps1 asg1 body1 none)) with
          | .ok e s2 h2 => endE b e h2
          | .bad => none
        | _ => none
      | _ => none
    | _, _ => none) none
  | _ => none
noncomputable def goOf (P : Program) (FT : Nat → Option EEnt) (rec : ECode → Tr AV → EH → ER) : GoE := fun isf f args h =>
  sel isf (match FT f with
  | some (.fn ef) => sel (Nat.ble args.length ef.n) (match rec ef.code (initT args 0 .e) h with
    | .ok (.exit _) _ _ => none
    | .ok _ s' h' => match resE ef.res s' h' with
      | some r => some (r, h')
      | none => none
    | .bad => none) none
  | some (.prim p) => p args h
  | none => none) (roundE P rec f args h)
/-- How a loop over a function was left. -/
noncomputable def outE (b : Nat) (s : Tr AV) (h : EH) : ER :=
  match h.get b with
  | some (.loop false _ _ _ _ none) => .ok .normal s (h.set b .dead)
  | some (.loop false _ _ _ _ (some .ret)) => .ok .ret s (h.set b .dead)
  | some (.loop false _ _ _ _ (some (.exit id))) => .ok (.exit id) s (h.set b .dead)
  | _ => .bad
noncomputable def rangeFE (go : GoE) (N : Nat) (f : AV) (ps : List Nat) (asg body : Code) (s : Tr AV) (h : EH) : ER :=
  match f with
  | .fn (.func g) first capt => sel ((first ++ capt).all AV.glob) (match go true g (first ++ .yfn h.n :: capt) (h.push (.loop false ((List.range N).map fun t => ((mkS s).s t).hide) ps asg body none)) with
    | some (_, h') => outE h.n s h'
    | none => .bad) .bad
  | _ => .bad
noncomputable def ER.then (r : ER) (k : Tr AV → EH → ER) : ER :=
  match r with
  | .ok .normal s h => k s h
  | r => r
noncomputable def ER.inBlock (id : Nat) (r : ER) : ER :=
  match r with
  | .ok (.exit i) s h => sel (Nat.beq i id) (.ok .normal s h) (.ok (.exit i) s h)
  | r => r
noncomputable def ae (P : Program) (FT : Nat → Option EEnt) (n : Nat) : ECode → Tr AV → EH → ER :=
  Nat.rec (motive := fun _ => ECode → Tr AV → EH → ER) (fun _ _ _ => .bad)
    (fun _ ih c s h => match c with
      | .skip => .ok .normal s h
      | .ops l => evOps (goOf P FT ih) l s h
      | .draw l cks => match evDraw (goOf P FT ih) l cks s h with
        | some (s', h') => .ok .normal s' h'
        | none => .bad
      | .seq a b => (ih a s h).then (ih b)
      | .cond c x y => match (mkS s).ev c with
        | .bool b => sel b (ih x s h) (ih y s h)
        | _ => .bad
      | .block id c => (ih c s h).inBlock id
      | .loop c => (ih c s h).then (ih (.loop c))
      | .exit id => .ok (.exit id) s h
      | .ret => .ok .ret s h
      | .rangef N f ps asg body => rangeFE (goOf P FT ih) N ((mkS s).ev f) ps asg body s h
      | .no => .bad) n
theorem ae_succ (P : Program) (FT : Nat → Option EEnt) (n : Nat) (c : ECode) (s : Tr AV) (h : EH) : ae P FT (n + 1) c s h = match c with
      | .skip => .ok .normal s h
      | .ops l => evOps (goOf P FT (ae P FT n)) l s h
      | .draw l cks => match evDraw (goOf P FT (ae P FT n)) l cks s h with
        | some (s', h') => .ok .normal s' h'
        | none => .bad
      | .seq a b => (ae P FT n a s h).then (ae P FT n b)
      | .cond c x y => match (mkS s).ev c with
        | .bool b => sel b (ae P FT n x s h) (ae P FT n y s h)
        | _ => .bad
      | .block id c => (ae P FT n c s h).inBlock id
      | .loop c => (ae P FT n c s h).then (ae P FT n (.loop c))
      | .exit id => .ok (.exit id) s h
      | .ret => .ok .ret s h
      | .rangef N f ps asg body => rangeFE (goOf P FT (ae P FT n)) N ((mkS s).ev f) ps asg body s h
      | .no => .bad := rfl

/-- The table tells of the program. -/
def EntOk (P : Program) (W0 : World) (f : FuncId) : EEnt → Prop
  | .fn ef => ∃ fn hs, P.funcs[f]? = some fn ∧ (fn.name == "runtime.NumGoroutine") = false ∧ eFunc P hs fn = some ef
  | .prim p => ∀ args h r h', p args h = some (r, h') → ACalls P W0 f args h.list fun r' H' => r' = r ∧ H' = h'.list
def FTOk (P : Program) (W0 : World) (FT : Nat → Option EEnt) : Prop := ∀ f e, FT f = some e → EntOk P W0 f e

section
variable {P : Program} {W0 : World} {FT : Nat → Option EEnt}
theorem evOps_ok {go : GoE} (hgo : GoOk P W0 go) {K : AS → AHeap → Prop} : ∀ {l : List AOper} {s s' : Tr AV} {h h' : EH} {x : AExit}, evOps go l s h = .ok x s' h' → (x = .normal ∧ (K (mkS s') h'.list → awpOps P W0 l K (mkS s) h.list))
  | [], s, s', h, h', x, e => by
    rw [evOps_nil] at e
    cases e
    exact ⟨rfl, fun k => k⟩
  | o :: l, s, s', h, h', x, e => by
    rw [evOps_cons] at e
    split at e
    · rename_i v h1 ho
      obtain ⟨rfl, ih⟩ := evOps_ok hgo (K := K) e
      refine ⟨rfl, fun k => ?_⟩
      refine AOper.evE_ok hgo ho ?_
      rw [← mkS_putO]
      exact ih k
    · cases e
theorem goOf_ok {n : Nat} (hft : FTOk P W0 FT) (ih : ∀ (c : ECode) (ac : ACode) (s s' : Tr AV) (h h' : EH) (x : AExit) (Q : AQ), toE ac = some c → ae P FT n c s h = .ok x s' h' → Q x (mkS s') h'.list → awp P W0 ac Q (mkS s) h.list) : GoOk P W0 (goOf P FT (ae P FT n)) := by
  refine ⟨fun f args h r h' e => ?_, fun b args h r h' e => ?_⟩
  · unfold goOf at e
    rw [sel_true] at e
    split at e
    · rename_i ef hf
      obtain ⟨q, e⟩ := sel_some e
      obtain ⟨fn, hs, h1, h2, h3⟩ := hft f _ hf
      simp only [eFunc, Option.bind_eq_some_iff, Option.map_eq_some_iff] at h3
      obtain ⟨af, h3, c, hc, rfl⟩ := h3
      refine acalls_of h1 h2 h3 (by simpa using q) ?_
      rw [← mkS_initT]
      have fin : ∀ x s' h1, ae P FT n c (initT args 0 .e) h = .ok x s' h1 → (x = .normal ∨ x = .ret) → resE af.res s' h1 = some r → h1 = h' → awp P W0 af.code (retQ af.res fun r' H' => r' = r ∧ H' = h'.list) (mkS (initT args 0 .e)) h.list := by
        intro x s' h1 e1 hx hr hh
        refine ih c af.code _ s' _ h1 x _ hc e1 ?_
        have := resE_ok hr
        subst hh
        rcases hx with rfl | rfl <;> simp only [retQ, this, and_self]
      split at e
      · cases e
      · rename_i x s' h1 hne e1
        split at e
        · rename_i r' hr
          cases e
          refine fin x s' _ e1 ?_ hr rfl
          cases x with
          | normal => exact .inl rfl
          | ret => exact .inr rfl
          | exit i => exact (hne i rfl).elim
        · cases e
      · cases e
    · rename_i p hf
      exact hft f _ hf args h r h' e
    · cases e
  · unfold goOf at e
    rw [sel_false] at e
    unfold roundE at e
    split at e
    rotate_left
    · cases e
    rename_i ss ps asg body hb
    obtain ⟨q, e⟩ := sel_some e
    simp only [Bool.and_eq_true, Nat.beq_eq] at q
    split at e
    rotate_left
    · cases e
    rename_i ea eb hea heb
    simp only [Option.bind_eq_some_iff] at hea heb
    obtain ⟨ac, hac, hea⟩ := hea
    obtain ⟨bc, hbc, heb⟩ := heb
    refine ayields_of (by rw [EH.get_list]; exact hb) hac q.1.1 hbc q.1.2 q.2 ?_
    rw [← mkS_roundT]
    split at e
    rotate_left
    · cases e
    rename_i s1 h1 e1
    refine ih ea ac _ _ _ _ .normal _ hea e1 ?_
    split at e
    rotate_left
    · cases e
    rename_i ss1 ps1 asg1 body1 hb1
    simp only [roundA, EH.get_list, hb1]
    split at e
    rotate_left
    · cases e
    rename_i x s2 h2 e2
    rw [← EH.set_list _ _ _ (by rw [hb1]; simp)]
    refine ih eb bc _ _ _ _ x _ heb e2 ?_
    unfold endE at e
    split at e
    rotate_left
    · cases e
    rename_i ss2 ps2 asg2 body2 p2 hb2
    simp only [roundQ, EH.get_list, hb2]
    cases x <;> simp only at e ⊢ <;> cases e <;> exact ⟨rfl, (EH.set_list _ _ _ (by rw [hb2]; simp)).symm⟩
theorem ae_ok (hft : FTOk P W0 FT) : ∀ (n : Nat) (c : ECode) (ac : ACode) (s s' : Tr AV) (h h' : EH) (x : AExit) (Q : AQ), toE ac = some c → ae P FT n c s h = .ok x s' h' → Q x (mkS s') h'.list → awp P W0 ac Q (mkS s) h.list := by
  intro n
  induction n using Nat.strongRecOn with
  | _ n ih =>
  cases n with
  | zero => intro c ac s s' h h' x Q hc e; cases e
  | succ n =>
  have ihn := ih n (by omega)
  have hgo : GoOk P W0 (goOf P FT (ae P FT n)) := goOf_ok hft ihn
  intro c ac s s' h h' x Q hc e k
  cases ac with
  | skip => cases hc; rw [ae_succ] at e; cases e; exact k
  | exit id => cases hc; rw [ae_succ] at e; cases e; exact k
  | ret => cases hc; rw [ae_succ] at e; cases e; exact k
  | no => cases hc; rw [ae_succ] at e; cases e
  | rangef N f ps asg body =>
    cases hc
    rw [ae_succ] at e
    simp only [rangeFE] at e
    simp only [awp]
    split at e
    rotate_left
    · cases e
    rename_i g first capt hf
    rw [hf]
    rw [sel_eq] at e
    split at e
    rotate_left
    · cases e
    rename_i hg
    split at e
    rotate_left
    · cases e
    rename_i r h1 hgo1
    refine ⟨hg, ?_⟩
    have := hgo.1 _ _ _ _ _ hgo1
    rw [EH.push_list] at this
    rw [EH.length_list]
    refine this.mono fun r' H' ⟨_, hH⟩ => ?_
    subst hH
    unfold outE at e
    split at e
    · rename_i hb
      cases e
      simp only [loopOut, EH.get_list, hb]
      rwa [EH.set_list _ _ _ (by rw [hb]; simp)] at k
    · rename_i hb
      cases e
      simp only [loopOut, EH.get_list, hb]
      rwa [EH.set_list _ _ _ (by rw [hb]; simp)] at k
    · rename_i hb
      cases e
      simp only [loopOut, EH.get_list, hb]
      rwa [EH.set_list _ _ _ (by rw [hb]; simp)] at k
    · cases e
  | ops l =>
    cases hc
    rw [ae_succ] at e
    obtain ⟨rfl, q⟩ := evOps_ok hgo (K := Q .normal) e
    exact q k
  | draw l after pn pubs =>
    simp only [toE] at hc
    split at hc
    · rename_i hp
      cases hc
      rw [ae_succ] at e
      simp only at e
      split at e
      · rename_i s1 h1 hd
        cases e
        exact draw_ok hgo hp hd k
      · cases e
    · cases hc; rw [ae_succ] at e; cases e
  | seq a b =>
    simp only [toE, Option.bind_eq_some_iff, Option.map_eq_some_iff] at hc
    obtain ⟨a', ha, b', hb, rfl⟩ := hc
    rw [ae_succ] at e
    simp only [ER.then] at e
    simp only [awp]
    split at e
    · rename_i s1 h1 e1
      exact ihn a' a _ _ _ _ .normal _ ha e1 (ihn b' b _ _ _ _ x Q hb e k)
    · rename_i hne
      refine ihn a' a _ _ _ _ x _ ha e ?_
      cases x with
      | normal => exact absurd e (hne _ _)
      | exit i => exact k
      | ret => exact k
  | cond c x1 y1 =>
    simp only [toE, Option.bind_eq_some_iff, Option.map_eq_some_iff] at hc
    obtain ⟨a', ha, b', hb, rfl⟩ := hc
    rw [ae_succ] at e
    simp only at e
    simp only [awp]
    split at e
    · rename_i b hcb
      cases b with
      | true => rw [sel_true] at e; simp only [hcb]; exact ihn a' x1 _ _ _ _ x Q ha e k
      | false => rw [sel_false] at e; simp only [hcb]; exact ihn b' y1 _ _ _ _ x Q hb e k
    · cases e
  | block id c =>
    simp only [toE, Option.map_eq_some_iff] at hc
    obtain ⟨a', ha, rfl⟩ := hc
    rw [ae_succ] at e
    simp only [ER.inBlock] at e
    simp only [awp]
    split at e
    · rename_i i s1 h1 e1
      rw [sel_eq] at e
      split at e
      · rename_i q
        cases e
        refine ihn a' c _ _ _ _ (.exit i) _ ha e1 ?_
        simp only [AQ.inBlock]
        rw [if_pos (by simpa using q)]; exact k
      · rename_i q
        cases e
        refine ihn a' c _ _ _ _ (.exit i) _ ha e1 ?_
        simp only [AQ.inBlock]
        rw [if_neg (by simpa using q)]; exact k
    · rename_i hne
      refine ihn a' c _ _ _ _ x _ ha e ?_
      cases x with
      | normal => exact k
      | exit i => exact absurd e (hne _ _ _)
      | ret => exact k
  | loop c =>
    have hc0 := hc
    simp only [toE, Option.map_eq_some_iff] at hc
    obtain ⟨a', ha, rfl⟩ := hc
    refine ⟨fun m st H => m ≤ n + 1 ∧ ∃ s h x s' h', st = mkS s ∧ H = h.list ∧ ae P FT m (.loop a') s h = .ok x s' h' ∧ Q x (mkS s') h'.list, n + 1, ⟨Nat.le_refl _, s, h, x, s', h', rfl, rfl, e, k⟩, ?_⟩
    rintro m st H ⟨hm, s, h, x, s', h', rfl, rfl, e, k⟩
    cases m with
    | zero => cases e
    | succ m =>
      rw [ae_succ] at e
      simp only [ER.then] at e
      have ihm := ih m (by omega)
      split at e
      · rename_i s1 h1 e1
        refine ihm a' c _ _ _ _ .normal _ ha e1 ?_
        exact ⟨m, by omega, by omega, s1, h1, x, s', h', rfl, rfl, e, k⟩
      · rename_i hne
        refine ihm a' c _ _ _ _ x _ ha e ?_
        cases x with
        | normal => exact absurd e (hne _ _)
        | exit i => exact k
        | ret => exact k
/-- A call that was reckoned. -/
theorem ae_call (hft : FTOk P W0 FT) {n : Nat} {f : FuncId} {args : List AV} {h h' : EH} {r : AV} (e : goOf P FT (ae P FT n) true f args h = some (r, h')) : ACalls P W0 f args h.list fun r' H' => r' = r ∧ H' = h'.list :=
  (goOf_ok hft (fun c ac s s' h h' x Q => ae_ok hft n c ac s s' h h' x Q)).1 f args h r h' e
end
end Go.Qa
/- The abstract machine: a run that the kernel can reckon: the table of a program's functions; a run by itself. -/
namespace Go.Qa
open Go Go.RowKit

/-- Each function of a program, compiled where it is called; some are known otherwise. -/
noncomputable def tableOf (P : Program) (hs : FuncId → List Nat) (prims : FuncId → Option (List AV → EH → Option (AV × EH))) : Nat → Option EEnt := fun f =>
  match prims f with
  | some p => some (.prim p)
  | none => match P.funcs[f]? with
    | some fn => sel (fn.name == "runtime.NumGoroutine") none (match eFunc P (List.range fn.ntmps ++ hs f) fn with
      | some e => some (.fn e)
      | none => none)
    | none => none
theorem tableOf_ok {P : Program} {W0 : World} {hs : FuncId → List Nat} {prims : FuncId → Option (List AV → EH → Option (AV × EH))}
    (hp : ∀ f p, prims f = some p → ∀ args h r h', p args h = some (r, h') → ACalls P W0 f args h.list fun r' H' => r' = r ∧ H' = h'.list) : FTOk P W0 (tableOf P hs prims) := by
  intro f e he
  unfold tableOf at he
  split at he
  · rename_i p hpf
    cases he
    exact hp f p hpf
  · split at he
    · rename_i fn hfn
      cases hq : (fn.name == "runtime.NumGoroutine") with
      | true => rw [hq] at he; cases he
      | false =>
        rw [hq, sel_false] at he
        split at he
        · rename_i ef hef
          cases he
          exact ⟨fn, _, hfn, hq, hef⟩
        · cases he
    · cases he

/-- A value whose only addresses are of cells that never turn. -/
def treeF : Nat → AV → Bool
  | 0, _ => false
  | n + 1, x => match x with
    | .int .. | .bool _ | .str _ | .pl _ => true
    | .eref cs => cs.all (treeF n)
    | .row none _ _ es => es.all (treeF n)
    | .iface _ y => treeF n y
    | .agg cs | .tup cs => cs.all (treeF n)
    | _ => false
theorem treeF_getD {n : Nat} {cs : List AV} (h : cs.all (treeF n) = true) {j : Nat} (hj : j < cs.length) : treeF n (cs.getD j .any) = true := by
  rw [List.all_eq_true] at h
  rw [List.getD_eq_getElem?_getD, List.getElem?_eq_getElem hj]
  exact h _ (List.getElem_mem hj)
theorem treeF_cells {n : Nat} {x : AV} {cs : List AV} (h : treeF n x = true) (hc : x.cells? = some cs) {j : Nat} (hj : j < cs.length) : ∃ m, treeF m (cs.getD j .any) = true := by
  cases n with
  | zero => cases h
  | succ n =>
    cases x with
    | agg es =>
      simp only [AV.cells?] at hc
      split at hc
      · cases hc
        exact ⟨n, treeF_getD h hj⟩
      · cases hc
    | _ =>
      simp only [AV.cells?] at hc
      split at hc
      · cases hc
        have : j = 0 := by simp at hj; omega
        subst this
        exact ⟨n + 1, h⟩
      · cases hc
theorem VRel.tree {G G' : Ghost} (him : ∀ B o v, G.imm B o = some v → G'.imm B o = some v) {x : AV} {v : Value} (h : VRel G x v) : ∀ n, treeF n x = true → VRel G' x v := by
  induction h with
  | int k n => exact fun _ _ => .int k n
  | bool b => exact fun _ _ => .bool b
  | str s hl => exact fun _ _ => .str s hl
  | pl v => exact fun _ _ => .pl v
  | eref cs B o cv hm hv ih =>
    intro n hn
    cases n with
    | zero => cases hn
    | succ n => exact .eref cs B o cv (fun j hj => him _ _ _ (hm j hj)) (fun j hj => ih j hj n (treeF_getD hn hj))
  | row own full esz es a cap cv hs he hm hv hc hx hf ho ih =>
    intro n hn
    cases n with
    | zero => cases hn
    | succ n =>
      cases own with
      | some _ => cases hn
      | none =>
        refine .row none full esz es a cap cv hs he (fun i j hi hj => him _ _ _ (hm i j hi hj)) (fun i j hi hj => ?_) hc hx hf (fun t n q => by cases q)
        obtain ⟨cs, hcs, hcl⟩ := he i hi
        obtain ⟨m, hm'⟩ := treeF_cells (treeF_getD hn hi) hcs (j := j) (by omega)
        refine ih i j hi hj m ?_
        have : (es.getD i .any).cells = cs := by simp only [AV.cells, hcs, Option.getD_some]
        rw [this]; exact hm'
  | iface t x v h ih =>
    intro n hn
    cases n with
    | zero => cases hn
    | succ n => exact .iface t x v (ih n hn)
  | agg cs vs hl h ih =>
    intro n hn
    cases n with
    | zero => cases hn
    | succ n => exact .agg cs vs hl fun j hj => ih j hj n (treeF_getD hn hj)
  | tup cs vs hl h ih =>
    intro n hn
    cases n with
    | zero => cases hn
    | succ n => exact .tup cs vs hl fun j hj => ih j hj n (treeF_getD hn hj)
  | _ => intro n hn; cases n <;> cases hn
/-- A call whose arguments and result are trees goes by itself, whatever lies around. -/
theorem ACalls.alone {P : Program} {W0 : World} {f : FuncId} {args : List AV} {r : AV} {na nr : Nat} (ha : ∀ a ∈ args, treeF na a = true) (hr : treeF nr r = true) (h : ∀ W1, ACalls P W1 f args [] fun r' _ => r' = r) (H : AHeap) :
    ACalls P W0 f args H fun r' H' => r' = r ∧ H' = H := by
  refine ⟨(h W0).1, fun G w vs hi hv => ?_⟩
  have hi0 : HInv w [] ⟨fun _ => none, G.imm, fun _ _ => none, fun _ => none⟩ w :=
    { base := Below.refl _ _, lt := fun _ _ e => (by cases e), imm := fun _ _ _ e => ⟨.inr (hi.immLt e), (hi.imm _ _ _ e).2⟩, bxs := fun _ _ e => (by cases e), inj := fun _ _ _ e => (by cases e), ats := fun _ _ _ _ e => (by cases e), obj := fun i o e => (by simp at e), cur := fun t _ n _ _ _ _ e => (by simp at e) }
  have hv0 : VRels ⟨fun _ => none, G.imm, fun _ _ => none, fun _ => none⟩ args vs := by
    refine ⟨hv.1, fun j hj => VRel.tree (G := G) (G' := ⟨fun _ => none, G.imm, fun _ _ => none, fun _ => none⟩) (fun _ _ _ e => e) (hv.2 j hj) na ?_⟩
    rw [List.getD_eq_getElem?_getD, List.getElem?_eq_getElem hj]
    exact ha _ (List.getElem_mem hj)
  refine ((h w).2 _ w vs hi0 hv0).mono fun e w' ⟨v, r', H', G', e1, hq, hn, hi', hv'⟩ => ?_
  subst hq
  have hs : w.heap.size ≤ w'.heap.size := hi'.base.size
  have hk : ∀ B, B < w.heap.size → w'.heap[B]? = w.heap[B]? := fun B hB => hi'.base.block B hB
  have hszN : ∀ B, B < w.heap.size → G'.sz B = none := fun B hB => by
    rcases q : G'.sz B with _ | n
    · rfl
    · have := (hi'.lt B n q).1; omega
  -- the outer ghost, with the inner's immutable cells
  have hold : ∀ B o, B < w.heap.size → G'.imm B o = G.imm B o := fun B o hB => by
    rcases q : G'.imm B o with _ | v
    · rcases q2 : G.imm B o with _ | v2
      · rfl
      · rw [hn.le.imm B o v2 q2] at q; cases q
    · rcases hn.le.immf B o v q with q2 | q2
      · exact q2.symm
      · exact absurd (hszN B hB) q2
  have hszG : ∀ B, G'.sz B ≠ none → (if B < w.heap.size then G.sz B else G'.sz B) ≠ none := fun B q => by
    rw [if_neg (fun q2 => q (hszN B q2))]; exact q
  have hszO : ∀ B n, G.sz B = some n → (if B < w.heap.size then G.sz B else G'.sz B) = some n := fun B n e => by rw [if_pos (hi.lt B n e).2]; exact e
  have hszO' : ∀ B, G.sz B ≠ none → (if B < w.heap.size then G.sz B else G'.sz B) ≠ none := fun B e => by
    obtain ⟨n, hn⟩ := Option.ne_none_iff_exists'.1 e
    rw [hszO B n hn]; simp
  have hle : G.le ⟨G.bx, G'.imm, G.at_, fun B => if B < w.heap.size then G.sz B else G'.sz B⟩ := by
    refine ⟨fun _ _ e => e, fun B o v e => hn.le.imm B o v e, fun _ _ _ e => e, hszO, fun B o v e => ?_⟩
    rcases hn.le.immf B o v e with q | q
    · exact .inl q
    · exact .inr (hszG B q)
  refine ⟨v, r', H, ⟨G.bx, G'.imm, G.at_, fun B => if B < w.heap.size then G.sz B else G'.sz B⟩, e1, ⟨rfl, rfl⟩, ?_, ?_, VRel.tree (G := G') (G' := ⟨G.bx, G'.imm, G.at_, fun B => if B < w.heap.size then G.sz B else G'.sz B⟩) (fun _ _ _ e => e) hv' nr hr⟩
  · refine ⟨hle, hs, fun B hB _ => hk B hB, fun B n q => ?_⟩
    simp only at q
    split at q
    · exact .inl q
    · right; omega
  · refine { base := ?_, lt := fun B n q => ?_, imm := fun B o v q => ?_, bxs := fun i B q => ?_, inj := hi.inj, ats := fun t n B E q => ?_, obj := fun i o q => ?_, cur := hi.cur }
    · exact hi.base.trans (hi'.base.mono hi.base.size)
    · simp only at q
      split at q
      · have := hi.lt B n q; omega
      · have := hi'.lt B n q; have := hi.base.size; omega
    · refine ⟨?_, (hi'.imm B o v q).2⟩
      rcases hn.le.immf B o v q with q2 | q2
      · rcases (hi.imm B o v q2).1 with q3 | q3
        · exact .inl (hszO' B q3)
        · exact .inr q3
      · exact .inl (hszG B q2)
    · have h3 := hi.bxs i B q
      refine ⟨h3.1, hszO' B h3.2.1, fun hl o => ?_⟩
      obtain ⟨n, hn2⟩ := Option.ne_none_iff_exists'.1 h3.2.1
      exact (hold B o (hi.lt B n hn2).2).trans (h3.2.2 hl o)
    · have h3 := hi.ats t n B E q
      exact ⟨h3.1, hszO' B h3.2.1, h3.2.2⟩
    · exact ORel.ext hi hle (fun B n o hB => hold B o (hi.lt B n hB).2) (fun B n hB => hk B (hi.lt B n hB).2) (hi.obj i o q)
/-- A run that the kernel has reckoned. -/
noncomputable def runsTo (P : Program) (FT : Nat → Option EEnt) (n : Nat) (f : FuncId) (args : List AV) (b : Bool) : Bool :=
  match goOf P FT (ae P FT n) true f args ⟨.e, 0⟩ with
  | some (.bool c, _) => c == b
  | _ => false
theorem runsTo_calls {P : Program} {W0 : World} {FT : Nat → Option EEnt} (hft : ∀ W, FTOk P W FT) {n : Nat} {f : FuncId} {args : List AV} {b : Bool} {na : Nat} (ha : ∀ a ∈ args, treeF na a = true) (e : runsTo P FT n f args b = true) (H : AHeap) :
    ACalls P W0 f args H fun r' H' => r' = .bool b ∧ H' = H := by
  unfold runsTo at e
  split at e
  · rename_i c h' he
    rw [beq_iff_eq] at e
    subst e
    refine ACalls.alone (nr := 1) ha rfl (fun W1 => ?_) H
    exact (ae_call (hft W1) he).mono fun r' H' q => q.1
  · cases e
end Go.Qa
/- The abstract machine: symbolic runs: what a piece of code asks for, as a proposition that can be unfolded by rewriting. -/
namespace Go.Qa
open Go Go.RowKit

def optP {α : Type} (x : Option α) (k : α → Prop) : Prop :=
  match x with
  | some a => k a
  | none => False
theorem optP_some {α : Type} (a : α) (k : α → Prop) : optP (some a) k = k a := rfl
theorem optP_none {α : Type} (k : α → Prop) : optP none k = False := rfl
theorem optP_sel {α : Type} (b : Bool) (x : Option α) (k : α → Prop) : optP (sel b x none) k = (b = true ∧ optP x k) := by cases b <;> simp [sel_true, sel_false, optP]
theorem optP_ite {α : Type} (c : Prop) [Decidable c] (x : Option α) (k : α → Prop) : optP (if c then x else none) k = (c ∧ optP x k) := by by_cases h : c <;> simp [h, optP]
theorem optP_elim {α : Type} {x : Option α} {k : α → Prop} (h : optP x k) : ∃ a, x = some a ∧ k a := by
  cases x with
  | none => exact h.elim
  | some a => exact ⟨a, rfl, h⟩
theorem optP_mono {α : Type} {x : Option α} {k k' : α → Prop} (h : optP x k) (m : ∀ a, k a → k' a) : optP x k' := by
  cases x with
  | none => exact h.elim
  | some a => exact m a h

/-- No calls. -/
def go0 : GoE := fun _ _ _ _ => none
theorem go0_ok (P : Program) (W0 : World) : GoOk P W0 go0 := ⟨fun f args h r h' e => (nomatch e), fun f args h r h' e => (nomatch e)⟩

/-- What bears this is held fixed by the simplifier. -/
inductive Tag {α : Sort _} (a : α) : Type where
  | mk
/-- A proposition that is not looked into. -/
def Later (p : Prop) (_ : Tag p) : Prop := p

section
variable (P : Program) (W0 : World)
/-- A call, and what comes behind. -/
def SCalls (f : FuncId) (args : List AV) (h : EH) (k : AV → EH → Prop) : Prop := ACalls P W0 f args h.list fun r H' => ∃ h' : EH, H' = h'.list ∧ k r h'
def SYields (b : Nat) (args : List AV) (h : EH) (k : AV → EH → Prop) : Prop := AYields P W0 b args h.list fun r H' => ∃ h' : EH, H' = h'.list ∧ k r h'
def callS (f : AV) (args : List AV) (h : EH) (k : AV → EH → Prop) : Prop :=
  match f with
  | .fn (.func g) first captured => (first ++ args ++ captured).all AV.glob = true ∧ SCalls P W0 g (first ++ args ++ captured) h k
  | .yfn b => args.all AV.glob = true ∧ SYields P W0 b args h k
  | _ => False
/-- The next step of a range: whatever it gives. -/
noncomputable def nextS (x : AV) (h : EH) (k : AV → EH → Prop) : Prop :=
  match x with
  | .itr r => match h.get r with
    | some (.iter none _ _ _) => k (.tup [.bool false]) h
    | some (.iter (some m) since seen last) => match h.get m with
      | some (.map es clock) => (seen = [] ∨ es = [] ∨ ∃ e ∈ es, e.2.2 < last) ∧ ∀ c ∈ candAV es since seen, match c with
        | none => k (.tup [.bool false]) h
        | some e => k (.tup [.bool true, e.1, e.2.1]) (h.set r (.iter (some m) since (seen ++ [e.2.2]) clock))
      | _ => False
    | _ => False
  | _ => False
noncomputable def opS (op : AOp) (s : Tr AV) (h : EH) (k : AV → EH → Prop) : Prop :=
  match op with
  | .ef (.call f args) => callS P W0 ((mkS s).ev f) (args.map (mkS s).ev) h k
  | .ef (.next x) => nextS ((mkS s).ev x) h k
  | op => optP (op.evE go0 (mkS s) h) fun p => k p.1 p.2
noncomputable def operS (o : AOper) (s : Tr AV) (h : EH) (k : Tr AV → EH → Prop) : Prop :=
  match o.guard with
  | none => opS P W0 o.op s h fun v h' => k (putO s o.dst v) h'
  | some (t, want) => match (mkS s).s t with
    | .bool b => (b = want → opS P W0 o.op s h fun v h' => k (putO s o.dst v) h') ∧ (b ≠ want → k (putO s o.dst (.pl undef)) h)
    | .pl (.tuple _) => k (putO s o.dst (.pl undef)) h
    | _ => False
noncomputable def opsS : List AOper → (Tr AV → EH → Prop) → Tr AV → EH → Prop
  | [], k, s, h => k s h
  | o :: r, k, s, h => operS P W0 o s h (opsS r k)

abbrev SQ := AExit → Tr AV → EH → Prop
def nextQ (b : Tr AV → EH → Prop) (Q : SQ) : SQ
  | .normal, s, h => b s h
  | .exit i, s, h => Q (.exit i) s h
  | .ret, s, h => Q .ret s h
def blockQ (id : Nat) (Q : SQ) : SQ
  | .normal, s, h => Q .normal s h
  | .exit i, s, h => if i = id then Q .normal s h else Q (.exit i) s h
  | .ret, s, h => Q .ret s h
/-- How a loop over a function is left. -/
noncomputable def outS (b : Nat) (Q : SQ) (s : Tr AV) (h : EH) : Prop :=
  match h.get b with
  | some (.loop false _ _ _ _ none) => Q .normal s (h.set b .dead)
  | some (.loop false _ _ _ _ (some .ret)) => Q .ret s (h.set b .dead)
  | some (.loop false _ _ _ _ (some (.exit id))) => Q (.exit id) s (h.set b .dead)
  | _ => False
/-- Two ways. -/
def condS (x : AV) (a b : Prop) : Prop :=
  match x with
  | .bool t => (t = true → a) ∧ (t = false → b)
  | _ => False
noncomputable def sw : ECode → SQ → Tr AV → EH → Prop
  | .skip, Q, s, h => Q .normal s h
  | .ops l, Q, s, h => opsS P W0 l (Q .normal) s h
  | .draw l cks, Q, s, h => ∃ go, GoOk P W0 go ∧ optP (evDraw go l cks s h) fun p => Q .normal p.1 p.2
  | .seq a b, Q, s, h => sw a (nextQ (sw b Q) Q) s h
  | .cond c x y, Q, s, h => condS ((mkS s).ev c) (sw x Q s h) (sw y Q s h)
  | .block id c, Q, s, h => sw c (blockQ id Q) s h
  | .loop c, Q, s, h => ∃ (I : Nat → Tr AV → EH → Prop) (n : Nat), I n s h ∧ ∀ n s h, I n s h → sw c (nextQ (fun s' h' => ∃ m, m < n ∧ I m s' h') Q) s h
  | .exit id, Q, s, h => Q (.exit id) s h
  | .ret, Q, s, h => Q .ret s h
  | .rangef N f ps asg body, Q, s, h => match (mkS s).ev f with
    | .fn (.func g) first capt => (first ++ capt).all AV.glob = true ∧ SCalls P W0 g (first ++ .yfn h.n :: capt) (h.push (.loop false ((List.range N).map fun t => ((mkS s).s t).hide) ps asg body none)) fun _ h' => outS h.n Q s h'
    | _ => False
  | .no, _, _, _ => False
end

section
variable {P : Program} {W0 : World}
theorem nextS_ok {x : AV} {h : EH} {k : AV → EH → Prop} {d : Option Nat} {K : AS → AHeap → Prop} {st : AS} (e : nextS x h k) (hk : ∀ v h', k v h' → K (st.set d v) h'.list) : nextAV x d K st h.list := by
  unfold nextS at e
  unfold nextAV
  split at e
  · rename_i r
    simp only [EH.get_list]
    split at e
    · rename_i hr
      rw [hr]
      exact hk _ _ e
    · rename_i m since seen last hr
      rw [hr]
      simp only
      split at e
      · rename_i es clock hm
        rw [hm]
        simp only
        refine ⟨e.1, fun c hc => ?_⟩
        have := e.2 c hc
        cases c with
        | none => exact hk _ _ this
        | some e =>
          simp only at this ⊢
          have := hk _ _ this
          rwa [EH.set_list _ _ _ (by rw [hr]; simp)] at this
      · exact e.elim
    · exact e.elim
  · exact e.elim
theorem opS_ok {op : AOp} {s : Tr AV} {h : EH} {k : AV → EH → Prop} {d : Option Nat} {K : AS → AHeap → Prop} (hk : ∀ v h', k v h' → K ((mkS s).set d v) h'.list) (e : opS P W0 op s h k) : op.wp P W0 d K (mkS s) h.list := by
  have rest : optP (op.evE go0 (mkS s) h) (fun p => k p.1 p.2) → op.wp P W0 d K (mkS s) h.list := fun e => by
    obtain ⟨p, hp, e⟩ := optP_elim e
    obtain ⟨v, h'⟩ := p
    exact AOp.evE_ok (go0_ok P W0) hp (hk _ _ e)
  cases op with
  | pu x => exact rest e
  | px x => exact rest e
  | ef x =>
    cases x with
    | call f args =>
      simp only [opS, callS] at e
      show callAV P W0 _ _ _ _ _ _
      unfold callAV
      generalize (mkS s).ev f = f at e
      cases f with
      | fn f first captured =>
        cases f with
        | func g => exact ⟨e.1, ACalls.mono e.2 fun r H' ⟨h', e1, q⟩ => by subst e1; exact hk _ _ q⟩
        | _ => exact e.elim
      | yfn b => exact ⟨e.1, AYields.mono e.2 fun r H' ⟨h', e1, q⟩ => by subst e1; exact hk _ _ q⟩
      | _ => exact e.elim
    | next x => exact nextS_ok e hk
    | _ => exact rest e
theorem operS_ok {o : AOper} {s : Tr AV} {h : EH} {k : Tr AV → EH → Prop} {K : AS → AHeap → Prop} (hk : ∀ s h, k s h → K (mkS s) h.list) (e : operS P W0 o s h k) : o.wp P W0 K (mkS s) h.list := by
  unfold operS at e
  unfold AOper.wp
  have hop : opS P W0 o.op s h (fun v h' => k (putO s o.dst v) h') → o.op.wp P W0 o.dst K (mkS s) h.list := fun e =>
    opS_ok (fun v h' q => by rw [← mkS_putO]; exact hk _ _ q) e
  split at e
  · rename_i hg
    simp only [hg]
    exact hop e
  · rename_i t want hg
    simp only [hg]
    split at e
    · rename_i b hb
      rw [hb]
      simp only
      split
      · rename_i q; exact hop (e.1 q)
      · rename_i q; rw [← mkS_putO]; exact hk _ _ (e.2 q)
    · rename_i hb
      rw [hb]
      simp only
      rw [← mkS_putO]; exact hk _ _ e
    · exact e.elim
theorem opsS_ok : ∀ {l : List AOper} {s : Tr AV} {h : EH} {k : Tr AV → EH → Prop} {K : AS → AHeap → Prop}, (∀ s h, k s h → K (mkS s) h.list) → opsS P W0 l k s h → awpOps P W0 l K (mkS s) h.list
  | [], s, h, k, K, hk, e => hk _ _ e
  | o :: r, s, h, k, K, hk, e => operS_ok (fun s h e => opsS_ok hk e) e
theorem condS_bool {x : AV} {a b : Prop} (e : condS x a b) : ∃ t, x = .bool t ∧ (t = true → a) ∧ (t = false → b) := by
  cases x <;> first | exact ⟨_, rfl, e⟩ | exact e.elim
/-- What sw asks for is enough. -/
theorem sw_ok : ∀ (c : ECode) (ac : ACode) (s : Tr AV) (h : EH) (Q : SQ) (K : AQ), toE ac = some c → (∀ x s h, Q x s h → K x (mkS s) h.list) → sw P W0 c Q s h → awp P W0 ac K (mkS s) h.list := by
  intro c
  induction c with
  | skip =>
    intro ac s h Q K hc hk e
    cases ac <;> simp [toE, Option.bind_eq_some_iff] at hc <;> first | exact hk _ _ _ e | (split at hc <;> simp at hc)
  | ops l =>
    intro ac s h Q K hc hk e
    cases ac <;> simp [toE, Option.bind_eq_some_iff] at hc <;> first | (subst hc; exact opsS_ok (fun s h e => hk _ _ _ e) e) | (split at hc <;> simp at hc)
  | draw l cks =>
    intro ac s h Q K hc hk e
    cases ac <;> simp [toE, Option.bind_eq_some_iff] at hc
    rename_i l' after pn pubs
    split at hc
    · rename_i hp
      cases hc
      obtain ⟨go, hgo, e⟩ := e
      obtain ⟨p, hp2, e⟩ := optP_elim e
      obtain ⟨s', h'⟩ := p
      exact draw_ok hgo hp hp2 (hk _ _ _ e)
    · cases hc
  | seq a b iha ihb =>
    intro ac s h Q K hc hk e
    cases ac <;> simp [toE, Option.bind_eq_some_iff] at hc <;> try (split at hc <;> simp at hc; done)
    rename_i a' b'
    obtain ⟨ha, hb⟩ := hc
    refine iha a' s h _ (AQ.next (awp P W0 b' K) K) ha (fun x s h q => ?_) e
    cases x with
    | normal => exact ihb b' s h Q K hb hk q
    | exit i => exact hk _ _ _ q
    | ret => exact hk _ _ _ q
  | cond c x y ihx ihy =>
    intro ac s h Q K hc hk e
    cases ac <;> simp [toE, Option.bind_eq_some_iff] at hc <;> try (split at hc <;> simp at hc; done)
    rename_i c' x' y'
    obtain ⟨x1, hx, y1, hy, rfl, rfl, rfl⟩ := hc
    obtain ⟨t, ht, e1, e2⟩ := condS_bool e
    simp only [awp, ht]
    cases t with
    | true => exact ihx x' s h Q K hx hk (e1 rfl)
    | false => exact ihy y' s h Q K hy hk (e2 rfl)
  | block id c ih =>
    intro ac s h Q K hc hk e
    cases ac <;> simp [toE, Option.bind_eq_some_iff] at hc <;> try (split at hc <;> simp at hc; done)
    rename_i id' c'
    obtain ⟨hc, q1⟩ := hc
    subst q1
    refine ih c' s h _ (AQ.inBlock _ K) hc (fun x s h q => ?_) e
    cases x with
    | normal => exact hk _ _ _ q
    | exit i =>
      simp only [blockQ] at q
      simp only [AQ.inBlock]
      split at q
      · rename_i hi; rw [if_pos hi]; exact hk _ _ _ q
      · rename_i hi; rw [if_neg hi]; exact hk _ _ _ q
    | ret => exact hk _ _ _ q
  | loop c ih =>
    intro ac s h Q K hc hk e
    cases ac <;> simp [toE, Option.bind_eq_some_iff] at hc <;> try (split at hc <;> simp at hc; done)
    rename_i c'
    obtain ⟨I, n, h0, hI⟩ := e
    refine ⟨fun n st H => ∃ s h, st = mkS s ∧ H = EH.list h ∧ I n s h, n, ⟨s, h, rfl, rfl, h0⟩, ?_⟩
    rintro n st H ⟨s, h, rfl, rfl, hi⟩
    refine ih c' s h _ _ hc (fun x s h q => ?_) (hI n s h hi)
    cases x with
    | normal =>
      obtain ⟨m, hm, q⟩ := q
      exact ⟨m, hm, s, h, rfl, rfl, q⟩
    | exit i => exact hk _ _ _ q
    | ret => exact hk _ _ _ q
  | exit id =>
    intro ac s h Q K hc hk e
    cases ac <;> simp [toE, Option.bind_eq_some_iff] at hc <;> first | (subst hc; exact hk _ _ _ e) | (split at hc <;> simp at hc)
  | ret =>
    intro ac s h Q K hc hk e
    cases ac <;> simp [toE, Option.bind_eq_some_iff] at hc <;> first | exact hk _ _ _ e | (split at hc <;> simp at hc)
  | rangef N f ps asg body =>
    intro ac s h Q K hc hk e
    cases ac <;> simp [toE, Option.bind_eq_some_iff] at hc <;> try (split at hc <;> simp at hc; done)
    obtain ⟨rfl, rfl, rfl, rfl, rfl⟩ := hc
    simp only [sw] at e
    simp only [awp]
    split at e
    · rename_i g first capt hf
      rw [hf]
      simp only
      refine ⟨e.1, ?_⟩
      have := e.2
      unfold SCalls at this
      rw [EH.push_list] at this
      rw [EH.length_list]
      refine this.mono fun r H' ⟨h', e1, q⟩ => ?_
      subst e1
      simp only [outS] at q
      split at q
      · rename_i hb
        simp only [loopOut, EH.get_list, hb]
        rw [← EH.set_list _ _ _ (by rw [hb]; simp)]
        exact hk _ _ _ q
      · rename_i hb
        simp only [loopOut, EH.get_list, hb]
        rw [← EH.set_list _ _ _ (by rw [hb]; simp)]
        exact hk _ _ _ q
      · rename_i hb
        simp only [loopOut, EH.get_list, hb]
        rw [← EH.set_list _ _ _ (by rw [hb]; simp)]
        exact hk _ _ _ q
      · exact q.elim
    · exact e.elim
  | no => intro ac s h Q K hc hk e; exact e.elim

/-- How a function is left. -/
noncomputable def retS (res : List ARes) (Q : AV → EH → Prop) : SQ
  | .exit _, _, _ => False
  | .normal, s, h => optP (resE res s h) fun r => Q r h
  | .ret, s, h => optP (resE res s h) fun r => Q r h
theorem scalls_of {f : FuncId} {fn : Func} {hs : List Nat} {ef : EFun} {args : List AV} {h : EH} {Q : AV → EH → Prop} (hf : P.funcs[f]? = some fn) (hn : (fn.name == "runtime.NumGoroutine") = false) (hc : eFunc P hs fn = some ef)
    (hl : args.length ≤ ef.n) (k : sw P W0 ef.code (retS ef.res Q) (initT args 0 .e) h) : SCalls P W0 f args h Q := by
  simp only [eFunc, Option.bind_eq_some_iff, Option.map_eq_some_iff] at hc
  obtain ⟨af, h3, c, hc, rfl⟩ := hc
  refine acalls_of hf hn h3 hl ?_
  rw [← mkS_initT]
  refine sw_ok c af.code _ h _ _ hc (fun x s h q => ?_) k
  cases x with
  | exit i => exact q.elim
  | normal =>
    obtain ⟨r, hr, q⟩ := optP_elim q
    simp only [retQ, resE_ok hr]
    exact ⟨h, rfl, q⟩
  | ret =>
    obtain ⟨r, hr, q⟩ := optP_elim q
    simp only [retQ, resE_ok hr]
    exact ⟨h, rfl, q⟩
theorem SCalls.mono {f : FuncId} {args : List AV} {h : EH} {k k' : AV → EH → Prop} (e : SCalls P W0 f args h k) (m : ∀ r h', k r h' → k' r h') : SCalls P W0 f args h k' :=
  ACalls.mono e fun r H' ⟨h', e1, q⟩ => ⟨h', e1, m _ _ q⟩
end
end Go.Qa
/- The abstract machine: symbolic runs: the rewriting rules. -/
namespace Go.Qa
open Go Go.RowKit

/-- What a slot holds. -/
noncomputable def sv (s : Tr AV) (i : Nat) : AV := (mkS s).s i
@[go_sem] theorem mkS_s (s : Tr AV) (i : Nat) : (mkS s).s i = sv s i := rfl
@[go_sem] theorem mkS_ev_t (s : Tr AV) (i : Nat) : (mkS s).ev (.t i) = sv s i := rfl
@[go_sem] theorem mkS_ev_c (s : Tr AV) (x : AV) : (mkS s).ev (.c x) = x := rfl
theorem putO_some (s : Tr AV) (d : Nat) (v : AV) : putO s (some d) v = s.put d v := rfl
theorem putO_none (s : Tr AV) (v : AV) : putO s none v = s := rfl
@[go_sem] theorem sv_put (s : Tr AV) (i j : Nat) (x : AV) : sv (s.put i x) j = if j = i then x else sv s j := by
  simp only [sv, mkS, Tr.get_put]
  split <;> rfl
@[go_sem] theorem sv_e (j : Nat) : sv .e j = .any := by simp only [sv, mkS, Tr.get_e]; rfl
@[go_sem] theorem initT_nil (i : Nat) (t : Tr AV) : initT [] i t = t := rfl
@[go_sem] theorem initT_cons (a : AV) (l : List AV) (i : Nat) (t : Tr AV) : initT (a :: l) i t = initT l (i + 1) (t.put i a) := rfl

/-! ### What is not looked into before its turn -/
def optT {α : Type} (x : Option α) (k : α → Prop) (_ : Tag k) : Prop := optP x k
@[go_sem] theorem optT_some {α : Type} (a : α) (k : α → Prop) (t : Tag k) : optT (some a) k t = k a := rfl
@[go_sem] theorem optT_none {α : Type} (k : α → Prop) (t : Tag k) : optT none k t = False := rfl
/-- Two ways, neither looked into. -/
def condT (x : AV) (a b : Prop) : Prop := condS x a b
/-! ### The heap -/
theorem EH.get_push (h : EH) (o : AObj) (i : Nat) : (h.push o).get i = if i = h.n then some o else h.get i := by
  rw [EH.push_def]
  simp only [EH.get_eq, Tr.get_put]
  by_cases e : i = h.n
  · rw [if_pos (by omega), if_pos e, if_pos e]; rfl
  · rw [if_neg e, if_neg e]
    by_cases q : i < h.n
    · rw [if_pos q, if_pos (by omega)]
    · rw [if_neg q, if_neg (by omega)]
@[go_sem] theorem EH.n_push (h : EH) (o : AObj) : (h.push o).n = h.n + 1 := by rw [EH.push_def]
@[go_sem] theorem EH.n_set (h : EH) (i : Nat) (o : AObj) : (h.set i o).n = h.n := by rw [EH.set_def]
theorem EH.get_lt {h : EH} {i : Nat} {o : AObj} (e : h.get i = some o) : i < h.n := by
  rw [EH.get_eq] at e
  split at e
  · assumption
  · cases e
@[go_sem] theorem EH.get_push_self (h : EH) (o : AObj) : (h.push o).get h.n = some o := by rw [EH.get_push, if_pos rfl]
theorem EH.get_push_of {h : EH} {o x : AObj} {i : Nat} (e : h.get i = some o) : (h.push x).get i = some o := by
  have := EH.get_lt e
  rw [EH.get_push, if_neg (by omega), e]
theorem EH.get_set (h : EH) (o : AObj) (i j : Nat) (hi : h.get i ≠ none) : (h.set i o).get j = if j = i then some o else h.get j := by
  rw [EH.set_def]
  have hn : i < h.n := by
    rw [EH.get_eq] at hi
    split at hi
    · assumption
    · exact absurd rfl hi
  simp only [EH.get_eq, Tr.get_put]
  by_cases e : j = i
  · subst e; rw [if_pos hn, if_pos rfl, if_pos rfl]; rfl
  · rw [if_neg e, if_neg e]
theorem EH.get_set_self {h : EH} {o x : AObj} {i : Nat} (e : h.get i = some o) : (h.set i x).get i = some x := by
  rw [EH.get_set _ _ _ _ (by rw [e]; simp), if_pos rfl]
theorem EH.get_set_ne {h : EH} {x : AObj} {i j : Nat} (e : j ≠ i) : (h.set i x).get j = h.get j := by
  rw [EH.set_def]
  simp only [EH.get_eq, Tr.get_put, if_neg e]

/-! ### What is not looked into before its turn -/
section
variable {P : Program} {W0 : World}
@[go_sem] theorem sv_putO (s : Tr AV) (i j : Nat) (x : AV) : sv (putO s (some i) x) j = if j = i then x else sv s j := sv_put s i j x
@[go_sem] theorem sv_putN (s : Tr AV) (j : Nat) (x : AV) : sv (putO s none x) j = sv s j := rfl
end
section
variable {P : Program} {W0 : World}
/-! ### Code -/
@[go_sem] theorem sw_skip (Q : SQ) (s : Tr AV) (h : EH) : sw P W0 .skip Q s h = Q .normal s h := by simp only [sw]
@[go_sem] theorem sw_ops (l : List AOper) (Q : SQ) (s : Tr AV) (h : EH) : sw P W0 (.ops l) Q s h = opsS P W0 l (Q .normal) s h := by simp only [sw]
@[go_sem] theorem sw_seq (a b : ECode) (Q : SQ) (s : Tr AV) (h : EH) : sw P W0 (.seq a b) Q s h = sw P W0 a (nextQ (sw P W0 b Q) Q) s h := by simp only [sw]
@[go_sem] theorem sw_cond (c : Opd) (x y : ECode) (Q : SQ) (s : Tr AV) (h : EH) : sw P W0 (.cond c x y) Q s h = condT ((mkS s).ev c) (Later (sw P W0 x Q s h) .mk) (Later (sw P W0 y Q s h) .mk) := by simp only [sw]; rfl
@[go_sem] theorem sw_block (id : Nat) (c : ECode) (Q : SQ) (s : Tr AV) (h : EH) : sw P W0 (.block id c) Q s h = sw P W0 c (blockQ id Q) s h := by simp only [sw]
@[go_sem] theorem sw_exit (id : Nat) (Q : SQ) (s : Tr AV) (h : EH) : sw P W0 (.exit id) Q s h = Q (.exit id) s h := by simp only [sw]
@[go_sem] theorem sw_ret (Q : SQ) (s : Tr AV) (h : EH) : sw P W0 .ret Q s h = Q .ret s h := by simp only [sw]
theorem sw_draw0 {l : List DStep} {cks : List (Nat × List Nat)} {Q : SQ} {s : Tr AV} {h : EH} (e : optP (evDraw go0 l cks s h) fun p => Q .normal p.1 p.2) : sw P W0 (.draw l cks) Q s h := by
  simp only [sw]
  exact ⟨go0, go0_ok P W0, e⟩
theorem sw_loop {c : ECode} {Q : SQ} {s : Tr AV} {h : EH} (I : Nat → Tr AV → EH → Prop) (n : Nat) (h0 : I n s h) (hI : ∀ n s h, I n s h → sw P W0 c (nextQ (fun s' h' => ∃ m, m < n ∧ I m s' h') Q) s h) : sw P W0 (.loop c) Q s h := by
  simp only [sw]
  exact ⟨I, n, h0, hI⟩
@[go_sem] theorem nextQ_normal (b : Tr AV → EH → Prop) (Q : SQ) (s : Tr AV) (h : EH) : nextQ b Q .normal s h = b s h := rfl
@[go_sem] theorem nextQ_exit (b : Tr AV → EH → Prop) (Q : SQ) (i : Nat) (s : Tr AV) (h : EH) : nextQ b Q (.exit i) s h = Q (.exit i) s h := rfl
@[go_sem] theorem nextQ_ret (b : Tr AV → EH → Prop) (Q : SQ) (s : Tr AV) (h : EH) : nextQ b Q .ret s h = Q .ret s h := rfl
@[go_sem] theorem blockQ_normal (id : Nat) (Q : SQ) (s : Tr AV) (h : EH) : blockQ id Q .normal s h = Q .normal s h := rfl
@[go_sem] theorem blockQ_exit (id i : Nat) (Q : SQ) (s : Tr AV) (h : EH) : blockQ id Q (.exit i) s h = if i = id then Q .normal s h else Q (.exit i) s h := rfl
@[go_sem] theorem blockQ_ret (id : Nat) (Q : SQ) (s : Tr AV) (h : EH) : blockQ id Q .ret s h = Q .ret s h := rfl
@[go_sem] theorem retS_normal (res : List ARes) (Q : AV → EH → Prop) (s : Tr AV) (h : EH) : retS res Q .normal s h = optT (resE res s h) (fun r => Q r h) .mk := rfl
@[go_sem] theorem retS_ret (res : List ARes) (Q : AV → EH → Prop) (s : Tr AV) (h : EH) : retS res Q .ret s h = optT (resE res s h) (fun r => Q r h) .mk := rfl
@[go_sem] theorem opsS_nil (k : Tr AV → EH → Prop) (s : Tr AV) (h : EH) : opsS P W0 [] k s h = k s h := rfl
@[go_sem] theorem opsS_cons (o : AOper) (l : List AOper) (k : Tr AV → EH → Prop) (s : Tr AV) (h : EH) : opsS P W0 (o :: l) k s h = operS P W0 o s h (opsS P W0 l k) := rfl
@[go_sem] theorem operS_none (d : Option Nat) (op : AOp) (s : Tr AV) (h : EH) (k : Tr AV → EH → Prop) : operS P W0 ⟨d, none, op⟩ s h k = opS P W0 op s h fun v h' => k (putO s d v) h' := rfl
/-! ### Ways -/
@[go_sem] theorem condT_bool (t : Bool) (a b : Prop) (g : Tag a) (g' : Tag b) : condT (.bool t) (Later a g) (Later b g') = if t = true then Later a g else Later b g' := by cases t <;> simp [condT, condS]
theorem later_eq (p : Prop) (g : Tag p) : Later p g = p := rfl
theorem Later.of {p : Prop} {g : Tag p} (h : p) : Later p g := h
/-- An operation under a guard. -/
def guardS (x : AV) (want : Bool) (a b : Prop) : Prop :=
  match x with
  | .bool t => if t = want then a else b
  | .pl (.tuple _) => b
  | _ => False
@[go_sem] theorem guardS_bool (t want : Bool) (a b : Prop) : guardS (.bool t) want a b = if t = want then a else b := rfl
@[go_sem] theorem operS_some (d : Option Nat) (t : Nat) (want : Bool) (op : AOp) (s : Tr AV) (h : EH) (k : Tr AV → EH → Prop) : operS P W0 ⟨d, some (t, want), op⟩ s h k = guardS (sv s t) want (Later (opS P W0 op s h fun v h' => k (putO s d v) h') .mk) (Later (k (putO s d (.pl undef)) h) .mk) := by
  unfold operS guardS
  simp only [mkS_s]
  cases sv s t with
  | bool b => by_cases q : b = want <;> simp [q, Later]
  | pl v => cases v <;> rfl
  | _ => rfl

/-! ### Operations -/
def boolS (x : AV) (k : Bool → Prop) (_ : Tag k) : Prop := match x with | .bool t => k t | _ => False
@[go_sem] theorem boolS_bool (t : Bool) (k : Bool → Prop) (g : Tag k) : boolS (.bool t) k g = k t := rfl
def headS (l : List AV) (k : AV → Prop) (_ : Tag k) : Prop := match l with | c :: _ => k c | [] => False
@[go_sem] theorem headS_cons (c : AV) (l : List AV) (k : AV → Prop) (g : Tag k) : headS (c :: l) k g = k c := rfl
section
variable {s : Tr AV} {h : EH} {k : AV → EH → Prop}
@[go_sem] theorem pu_mov (x : Opd) : opS P W0 (.pu (.mov x)) s h k = k ((mkS s).ev x) h := rfl
@[go_sem] theorem pu_pick (c a b : Opd) : opS P W0 (.pu (.pick c a b)) s h k = boolS ((mkS s).ev c) (fun t => k (if t = true then (mkS s).ev a else (mkS s).ev b) h) .mk := by
  show optP (match PExp.evE (.pick c a b) (mkS s) h with | some r => some (r, h) | none => none) (fun p => k p.1 p.2) = _
  show optP (match (match (mkS s).ev c with | .bool true => some ((mkS s).ev a) | .bool false => some ((mkS s).ev b) | _ => none) with | some r => some (r, h) | none => none) (fun p => k p.1 p.2) = _
  cases (mkS s).ev c with
  | bool t => cases t <;> rfl
  | _ => rfl
@[go_sem] theorem pu_load (x : Opd) : opS P W0 (.pu (.load none x)) s h k = optT (cellsE h ((mkS s).ev x)) (fun cs => headS cs (fun c => k c h) .mk) .mk := by
  show optP (match (match cellsE h ((mkS s).ev x) with | some (c :: _) => some c | _ => none) with | some r => some (r, h) | none => none) (fun p => k p.1 p.2) = _
  cases cellsE h ((mkS s).ev x) with
  | none => rfl
  | some l => cases l <;> rfl
@[go_sem] theorem pu_loadN (n : Nat) (x : Opd) : opS P W0 (.pu (.load (some n) x)) s h k = optT (cellsE h ((mkS s).ev x)) (fun cs => n ≤ cs.length ∧ k (AV.agg (cs.take n)) h) .mk := by
  show optP (match (match cellsE h ((mkS s).ev x) with | some cs => sel (Nat.ble n cs.length) (some (AV.agg (cs.take n))) none | _ => none) with | some r => some (r, h) | none => none) (fun p => k p.1 p.2) = _
  cases cellsE h ((mkS s).ev x) with
  | none => rfl
  | some l =>
    simp only [sel_eq, Nat.ble_eq, optP_some]
    by_cases q : n ≤ l.length
    · simp [q, optP, optT, Later]
    · simp [q, optP, optT, Later]
theorem pu_ev {x : PExp} (e : x.evE (mkS s) h = x.ev (mkS s) []) : opS P W0 (.pu x) s h k = optP (x.ev (mkS s) []) fun v => k v h := by
  show optP (match x.evE (mkS s) h with | some r => some (r, h) | none => none) (fun p => k p.1 p.2) = _
  rw [e]
  cases x.ev (mkS s) [] <;> rfl
@[go_sem] theorem pu_nilck (x : Opd) : opS P W0 (.pu (.nilck x)) s h k = optT (nilckAV ((mkS s).ev x)) (fun v => k v h) .mk := pu_ev rfl
@[go_sem] theorem pu_bin (op : BinOp) (x y : Opd) : opS P W0 (.pu (.bin op x y)) s h k = optT (binAV op ((mkS s).ev x) ((mkS s).ev y)) (fun v => k v h) .mk := pu_ev (by
  show binE op _ _ = _
  rw [binE_eq]; rfl)
@[go_sem] theorem pu_un (op : UnOp) (x : Opd) : opS P W0 (.pu (.un op x)) s h k = optT (unAV op ((mkS s).ev x)) (fun v => k v h) .mk := pu_ev rfl
def intS (x : AV) (k : Int → Prop) (_ : Tag k) : Prop := match x with | .int _ n => k n | _ => False
@[go_sem] theorem intS_int (q : IntKind) (n : Int) (k : Int → Prop) (g : Tag k) : intS (.int q n) k g = k n := rfl
@[go_sem] theorem pu_i2i (q : IntKind) (x : Opd) : opS P W0 (.pu (.i2i q x)) s h k = intS ((mkS s).ev x) (fun n => k (.int q (q.wrap n)) h) .mk := by
  rw [pu_ev rfl]
  simp only [PExp.ev]
  cases (mkS s).ev x <;> rfl
@[go_sem] theorem pu_off (o : Nat) (x : Opd) : opS P W0 (.pu (.off o x)) s h k = optT (offAV o ((mkS s).ev x)) (fun v => k v h) .mk := pu_ev rfl
@[go_sem] theorem pu_iaddr (esz : Nat) (x i : Opd) : opS P W0 (.pu (.iaddr esz x i)) s h k = intS ((mkS s).ev i) (fun n => optT (iaddrAV esz ((mkS s).ev x) n) (fun v => k v h) .mk) .mk := by
  rw [pu_ev rfl]
  simp only [PExp.ev]
  cases (mkS s).ev i <;> rfl
def strS (x : AV) (k : List UInt8 → Prop) (_ : Tag k) : Prop := match x with | .str s => k s | _ => False
@[go_sem] theorem strS_str (s : List UInt8) (k : List UInt8 → Prop) (g : Tag k) : strS (.str s) k g = k s := rfl
@[go_sem] theorem pu_idxS (x i : Opd) : opS P W0 (.pu (.idxS x i)) s h k = strS ((mkS s).ev x) (fun l => intS ((mkS s).ev i) (fun n => (0 ≤ n ∧ n < l.length) ∧ Later (k (.int .u8 (l.getD n.toNat 0).toNat) h) .mk) .mk) .mk := by
  rw [pu_ev rfl]
  simp only [PExp.ev]
  cases (mkS s).ev x with
  | str l =>
    cases (mkS s).ev i with
    | int q n =>
      simp only [AV.asI, strS_str, intS_int]
      by_cases q : 0 ≤ n ∧ n < l.length
      · simp [q, optP, optT, Later]
      · simp [q, optP, optT, Later]
    | _ => rfl
  | _ => rfl
/-- A bound of a slice expression. -/
def bdS (x : Option AV) (d : Int) (k : Int → Prop) (_ : Tag k) : Prop := match x with | none => k d | some (.int _ n) => k n | some _ => False
@[go_sem] theorem bdS_none (d : Int) (k : Int → Prop) (g : Tag k) : bdS none d k g = k d := rfl
@[go_sem] theorem bdS_some (q : IntKind) (n d : Int) (k : Int → Prop) (g : Tag k) : bdS (some (.int q n)) d k g = k n := rfl
@[go_sem] theorem pu_slS (x : Opd) (lo hi : Option Opd) : opS P W0 (.pu (.slS x lo hi)) s h k = strS ((mkS s).ev x) (fun l => bdS (lo.map (mkS s).ev) 0 (fun a => bdS (hi.map (mkS s).ev) l.length (fun b =>
    (0 ≤ a ∧ a ≤ b ∧ b ≤ l.length) ∧ Later (k (.str ((l.take b.toNat).drop a.toNat)) h) .mk) .mk) .mk) .mk := by
  rw [pu_ev rfl]
  simp only [PExp.ev]
  cases (mkS s).ev x with
  | str l =>
    simp only [strS_str]
    have fin : ∀ a b : Int, optP (if 0 ≤ a ∧ a ≤ b ∧ b ≤ (l.length : Int) then some (AV.str ((l.take b.toNat).drop a.toNat)) else none) (fun v => k v h) = ((0 ≤ a ∧ a ≤ b ∧ b ≤ (l.length : Int)) ∧ k (.str ((l.take b.toNat).drop a.toNat)) h) := fun a b => by
      by_cases q : 0 ≤ a ∧ a ≤ b ∧ b ≤ (l.length : Int) <;> simp [q, optP, optT, Later]
    cases lo with
    | none =>
      cases hi with
      | none => exact fin 0 l.length
      | some y =>
        simp only [AS.bd, Option.map_some, Option.map_none, bdS_none]
        cases (mkS s).ev y <;> first | exact fin _ _ | rfl
    | some z =>
      simp only [AS.bd, Option.map_some]
      cases (mkS s).ev z with
      | int q n =>
        simp only [AV.asI, bdS_some]
        cases hi with
        | none => exact fin _ _
        | some y =>
          simp only [Option.map_some]
          cases (mkS s).ev y <;> first | exact fin _ _ | rfl
      | _ => rfl
  | _ => rfl
@[go_sem] theorem pu_lenS (x : Opd) : opS P W0 (.pu (.lenS x)) s h k = strS ((mkS s).ev x) (fun l => k (.int .i64 l.length) h) .mk := by
  rw [pu_ev rfl]
  simp only [PExp.ev]
  cases (mkS s).ev x <;> rfl
def lenAV (x : AV) : Option Int := match x with
  | .row _ _ _ es => some es.length
  | .arr _ _ n _ => some n
  | .pl (.slice none n _) => some n
  | _ => none
@[go_sem] theorem lenAV_row (o : Option (Nat × Nat)) (f : Bool) (z : Nat) (es : List AV) : lenAV (.row o f z es) = some (es.length : Int) := rfl
@[go_sem] theorem lenAV_nil (n c : Nat) : lenAV (.pl (.slice none n c)) = some (n : Int) := rfl
@[go_sem] theorem pu_lenR (x : Opd) : opS P W0 (.pu (.lenR x)) s h k = optT (lenAV ((mkS s).ev x)) (fun n => k (.int .i64 n) h) .mk := by
  rw [pu_ev rfl]
  simp only [PExp.ev, lenAV]
  split <;> simp_all [optP, optT]
def tupS (x : AV) (i : Nat) (k : AV → Prop) (_ : Tag k) : Prop := match x with | .tup vs => optP vs[i]? k | _ => False
@[go_sem] theorem tupS_tup (vs : List AV) (i : Nat) (k : AV → Prop) (g : Tag k) : tupS (.tup vs) i k g = optT vs[i]? k g := rfl
@[go_sem] theorem pu_extr (x : Opd) (i : Nat) : opS P W0 (.pu (.extr x i)) s h k = tupS ((mkS s).ev x) i (fun v => k v h) .mk := by
  rw [pu_ev rfl]
  simp only [PExp.ev]
  cases (mkS s).ev x <;> rfl
@[go_sem] theorem pu_mkfn (f : Fn) (a b : List Opd) : opS P W0 (.pu (.mkfn f a b)) s h k = (((a.map (mkS s).ev).all AV.glob && (b.map (mkS s).ev).all AV.glob) = true ∧ k (.fn f (a.map (mkS s).ev) (b.map (mkS s).ev)) h) := by
  rw [pu_ev rfl]
  simp only [PExp.ev, optP_ite, optP_some]
@[go_sem] theorem pu_build (z : List AV) (ps : List (Nat × Nat × Opd)) : opS P W0 (.pu (.build z ps)) s h k = optT (fillAV z (ps.map fun p => (p.1, p.2.1, (mkS s).ev p.2.2))) (fun cs => k (.agg cs) h) .mk := by
  rw [pu_ev rfl]
  simp only [PExp.ev]
  cases fillAV z (ps.map fun p => (p.1, p.2.1, (mkS s).ev p.2.2)) <;> rfl
end
/-! ### Results -/
def globS (x : AV) : Option AV := if x.glob = true then some x else none
@[go_sem] theorem globS_int (k : IntKind) (n : Int) : globS (.int k n) = some (.int k n) := rfl
@[go_sem] theorem globS_bool (b : Bool) : globS (.bool b) = some (.bool b) := rfl
@[go_sem] theorem globS_str (b : List UInt8) : globS (.str b) = some (.str b) := rfl
@[go_sem] theorem globS_pl (v : Value) : globS (.pl v) = some (.pl v) := rfl
@[go_sem] theorem globS_ref (b o : Nat) : globS (.ref b o) = some (.ref b o) := rfl
@[go_sem] theorem globS_row (o : Option (Nat × Nat)) (f : Bool) (z : Nat) (es : List AV) : globS (.row o f z es) = some (.row o f z es) := rfl
@[go_sem] theorem globS_agg (cs : List AV) : globS (.agg cs) = some (.agg cs) := rfl
@[go_sem] theorem globS_map (m : Nat) : globS (.map m) = some (.map m) := rfl
@[go_sem] theorem evE_t (i : Nat) (s : Tr AV) (h : EH) : ARes.evE (.t i) s h = globS (sv s i) := by
  show sel (sv s i).glob (some (sv s i)) none = globS (sv s i)
  rw [sel_eq]; rfl
end
end Go.Qa
/- The abstract machine: the weakest precondition that may forget what stands in slots. -/
namespace Go.Qa
open Go Go.RowKit

/-- Less is known of some slots. -/
def AS.le (st' st : AS) : Prop := (∀ i, st'.s i = st.s i ∨ st'.s i = .any) ∧ st'.loc = st.loc ∧ st'.pnd = st.pnd
theorem AS.le.refl (st : AS) : AS.le st st := ⟨fun _ => .inl rfl, rfl, rfl⟩

def awpOpsG (P : Program) (W0 : World) : List AOper → (AS → AHeap → Prop) → AS → AHeap → Prop
  | [], K, st, H => ∃ st', AS.le st' st ∧ K st' H
  | o :: r, K, st, H => ∃ st', AS.le st' st ∧ o.wp P W0 (awpOpsG P W0 r K) st' H
def awpG (P : Program) (W0 : World) : ACode → AQ → AS → AHeap → Prop
  | .skip, Q, st, H => Q .normal st H
  | .ops l, Q, st, H => awpOpsG P W0 l (Q .normal) st H
  | .draw l after pn pubs, Q, st, H => awpAny P W0 l after pn pubs (Q .normal) l.length [] st H
  | .seq a b, Q, st, H => awpG P W0 a (AQ.next (fun st H => ∃ st', AS.le st' st ∧ awpG P W0 b Q st' H) Q) st H
  | .cond c x y, Q, st, H => match st.ev c with
    | .bool true => awpG P W0 x Q st H
    | .bool false => awpG P W0 y Q st H
    | _ => False
  | .block id c, Q, st, H => awpG P W0 c (AQ.inBlock id Q) st H
  | .loop c, Q, st, H => ∃ (I : Nat → AS → AHeap → Prop) (n : Nat), (∃ st', AS.le st' st ∧ I n st' H) ∧ ∀ n st H, I n st H → awpG P W0 c (AQ.next (fun st1 H' => ∃ st', AS.le st' st1 ∧ ∃ m, m < n ∧ I m st' H') Q) st H
  | .exit id, Q, st, H => Q (.exit id) st H
  | .ret, Q, st, H => Q .ret st H
  | .rangef N f ps asg body, Q, st, H => match st.ev f with
    | .fn (.func g) first capt => (first ++ capt).all AV.glob = true ∧ ACalls P W0 g (first ++ .yfn H.length :: capt) (H ++ [.loop false ((List.range N).map fun t => (st.s t).hide) ps asg body none]) fun _ H' => loopOut H.length st Q H'
    | _ => False
  | .no, Q, st, H => False

section
variable {W0 : World} {G0 : Ghost} {w0 : World} {N : Nat} {G G' : Ghost} {L : Nat → Option Nat} {st : AS} {H H' : AHeap} {ca : Act} {w w' : World} {P : Program} {ro : Option Nat} {n : Nat} {hs : List Nat} {ops : Array Oper} {K : AS → AHeap → Prop} {Q : Exit → Act → World → Prop}
theorem Rel.weak (h : Rel W0 G0 w0 N G L st H ca w) {st' : AS} (hl : AS.le st' st) : Rel W0 G0 w0 N G L st' H ca w := by
  obtain ⟨h1, h2, h3⟩ := hl
  refine { bw := h.bw, next := h.next, inv := h.inv, defers := h.defers, size := h.size, slots := fun t ht => ?_, locs := fun t cs e => h.locs t cs (by rw [← h2]; exact e), linj := fun t t' B e e' => h.linj t t' B (by rw [← h2]; exact e) (by rw [← h2]; exact e'), lrefs := fun t i off ht e => ?_, pnds := ?_ }
  · rcases h1 t with q | q
    · rw [q]; exact h.slots t ht
    · rw [q]; exact .of (.any _)
  · rcases h1 t with q | q
    · rw [h2]; exact h.lrefs t i off ht (by rw [← q]; exact e)
    · rw [q] at e; cases e
  · obtain ⟨M, a, b, c⟩ := h.pnds
    refine ⟨M, fun t o e => ?_, fun t t' e e' => b t t' (by rw [← h3]; exact e) (by rw [← h3]; exact e'), fun t l e e' => c t l (by rw [← h3]; exact e) (by rw [← h2]; exact e')⟩
    obtain ⟨p, q, r⟩ := a t o (by rw [← h3]; exact e)
    refine ⟨p, ?_, r⟩
    rcases h1 t with z | z
    · rw [z]; exact q
    · exact z
theorem ops_soundG : ∀ (l : List Oper) (al : List AOper) {G : Ghost} {L : Nat → Option Nat} {st : AS} {H : AHeap} {ca : Act} {w : World}, l.mapM (cOper P N hs ops) = some al → Rel W0 G0 w0 N G L st H ca w → awpOpsG P W0 al K st H →
    (∀ ca w, Post W0 G0 w0 N K ca w → Q .normal ca w) → wpListIn (RF ro) n P ops Q l ca w
  | [], al, G, L, st, H, ca, w, hc, h, k, hq => by
    simp at hc; subst hc
    obtain ⟨st', hle, k⟩ := k
    exact hq _ _ (.of (h.weak hle) k)
  | o :: l, al, G, L, st, H, ca, w, hc, h, k, hq => by
    simp only [List.mapM_cons, Option.bind_eq_bind, Option.bind_eq_some_iff, Option.pure_def, Option.some.injEq] at hc
    obtain ⟨ao, hao, al', hal, rfl⟩ := hc
    obtain ⟨st', hle, k⟩ := k
    obtain ⟨h1, h2⟩ := cOper_sound (Q := Q) (n := n) (ro := ro) (h.weak hle) hao k
    have go : ∀ ca w, Post W0 G0 w0 N (awpOpsG P W0 al' K) ca w → wpListIn (RF ro) n P ops Q l ca w := fun ca w ⟨st, H, k, G, L, h⟩ => ops_soundG l al' hal h k hq
    unfold wpListIn
    cases e : Region.wanted o (yielded ops ca.tmps) with
    | true => simp only [if_true]; exact Oper.wpIn_mono go (h1 e)
    | false => simp only [Bool.false_eq_true, if_false]; exact ⟨fun _ _ => trivial, go _ _ (h2 e)⟩
theorem code_soundG : ∀ (c : Code) (ac : ACode) (Q : AQ) {G : Ghost} {L : Nat → Option Nat} {st : AS} {H : AHeap} {ca : Act} {w : World}, (ro = none ∨ codeCalm c = true) → cCode P N hs c = some ac → Rel W0 G0 w0 N G L st H ca w → awpG P W0 ac Q st H → c.wpIn (RF ro) n P (Lift W0 G0 w0 N Q) ca w := by
  intro c
  induction c with
  | skip =>
    intro ac Q G L st H ca w hro hc h k
    simp only [cCode, Option.some.injEq] at hc
    subst hc
    exact wpIn_skip (.of h k)
  | region id ops draw =>
    intro ac Q G L st H ca w hro hc h k
    simp only [cCode, Option.bind_eq_some_iff] at hc
    obtain ⟨l, hl, hc⟩ := hc
    cases draw with
    | false =>
      simp only [Bool.false_eq_true, if_false, Option.some.injEq] at hc
      subst hc
      exact wpIn_region_list (ops_soundG ops.toList l hl h k (fun ca w q => q))
    | true =>
      simp only [if_true] at hc
      split at hc
      · rename_i hf
        rw [Bool.and_eq_true] at hf
        cases hc
        refine wpIn_region_any hf.1 ?_
        have hlen : l.length = ops.size := by simpa using (mapM_get hl).1
        refine any_sound (K := Q .normal) (pn := pnOf P N ops.toList l (ops.toList.map afterOf)) (pubs := pubsOf ops.toList (pnOf P N ops.toList l (ops.toList.map afterOf))) (pnOf_ok _ _ _ _ _) hl hf.2 (fun ca w q => q) ops.size [] _ (fun i hi => ?_) (by simp) (by simp) (by simp) h.drew ?_
        · simp [hi]
        · simp only [awpG, hlen] at k; exact k
      · cases hc; exact k.elim
  | seq a b iha ihb =>
    intro ac Q G L st H ca w hro hc h k
    simp only [cCode, Option.bind_eq_some_iff, Option.map_eq_some_iff] at hc
    obtain ⟨x, hx, y, hy, rfl⟩ := hc
    refine wpIn_seq (Go.wpIn_mono (iha x _ (hro.imp (fun q => q) fun q => by simp only [codeCalm, Bool.and_eq_true] at q; exact q.1) hx h k) (fun e a w q => ?_))
    cases e <;> first
      | exact q
      | exact q.elim
      | (obtain ⟨st, H, ⟨st', hle, k⟩, G, L, h⟩ := q; exact ihb y Q (hro.imp (fun q => q) fun q => by simp only [codeCalm, Bool.and_eq_true] at q; exact q.2) hy (h.weak hle) k)
  | cond c x y ihx ihy =>
    intro ac Q G L st H ca w hro hc h k
    simp only [cCode, Option.bind_eq_some_iff, Option.map_eq_some_iff] at hc
    obtain ⟨c', hc', x', hx, y', hy, rfl⟩ := hc
    have h1 := h.opd hc'
    simp only [awpG] at k
    split at k
    · rename_i e; rw [e] at h1; exact wpIn_cond_true h1.bool (ihx x' Q (hro.imp (fun q => q) fun q => by simp only [codeCalm, Bool.and_eq_true] at q; exact q.1) hx h k)
    · rename_i e; rw [e] at h1; exact wpIn_cond_false h1.bool (ihy y' Q (hro.imp (fun q => q) fun q => by simp only [codeCalm, Bool.and_eq_true] at q; exact q.2) hy h k)
    · exact k.elim
  | block id c ih =>
    intro ac Q G L st H ca w hro hc h k
    simp only [cCode, Option.map_eq_some_iff] at hc
    obtain ⟨x, hx, rfl⟩ := hc
    refine wpIn_block (Go.wpIn_mono (ih x _ (hro.imp (fun q => q) fun q => by simpa only [codeCalm] using q) hx h k) (fun e a w q => ?_))
    cases e <;> first
      | exact q
      | exact q.elim
      | skip
    rename_i i
    obtain ⟨st, H, k, r⟩ := q
    simp only [AQ.inBlock] at k
    simp only [Exit.inBlock]
    split at k
    · rename_i e; rw [if_pos e]; exact ⟨st, H, k, r⟩
    · rename_i e; rw [if_neg e]; exact ⟨st, H, k, r⟩
  | loop c ih =>
    intro ac Q G L st H ca w hro hc h k
    simp only [cCode, Option.map_eq_some_iff] at hc
    obtain ⟨x, hx, rfl⟩ := hc
    obtain ⟨I, m0, ⟨st0, hle0, h0⟩, hr⟩ := k
    refine wpIn_loop_ghost (fun m => Post W0 G0 w0 N (I m)) m0 (.of (h.weak hle0) h0) (fun m a w ⟨st, H, k, G, L, h⟩ => ?_)
    refine Go.wpIn_mono (ih x _ (hro.imp (fun q => q) fun q => by simpa only [codeCalm] using q) hx h (hr m st H k)) (fun e a w q => ?_)
    cases e <;> first
      | exact q
      | exact q.elim
      | (obtain ⟨st, H, ⟨st', hle, m, hm, k⟩, G, L, h⟩ := q; exact ⟨m, hm, st', H, k, G, L, h.weak hle⟩)
  | exit id =>
    intro ac Q G L st H ca w hro hc h k
    simp only [cCode, Option.some.injEq] at hc
    subst hc
    exact wpIn_exit (.of h k)
  | ret =>
    intro ac Q G L st H ca w hro hc h k
    simp only [cCode, Option.some.injEq] at hc
    subst hc
    exact wpIn_ret (.of h k)
  | rangeFunc f ps asg body =>
    intro ac Q G L st H ca w hro hc h k
    simp only [cCode] at hc
    split at hc
    · simp only [Option.map_eq_some_iff] at hc
      obtain ⟨f', hf, rfl⟩ := hc
      rcases hro with rfl | q
      · exact rangef_sound h hf k
      · simp [codeCalm] at q
    · cases hc; exact k.elim
  | _ => intro ac Q G L st H ca w hro hc h k; simp only [cCode, Option.some.injEq] at hc; subst hc; exact k.elim
theorem acallsG_of {f : FuncId} {fn : Func} {hs : List Nat} {af : AFunc} {args : List AV} {Q : AV → AHeap → Prop} (hf : P.funcs[f]? = some fn) (hn : (fn.name == "runtime.NumGoroutine") = false) (hc : cFunc P hs fn = some af)
    (hl : args.length ≤ af.n) (k : awpG P W0 af.code (retQ af.res Q) (.init args) H) : ACalls P W0 f args H Q := by
  simp only [cFunc, Option.bind_eq_some_iff, Option.map_eq_some_iff] at hc
  obtain ⟨c, hb, rs, hrs, ac, hac, rfl⟩ := hc
  refine ⟨Enters.of hf hn (by rw [hb]; rfl), fun G w vs hi hv => ?_⟩
  refine (callsIn_wide (n := 3)).1 ?_
  refine callsIn_of_wp_marks (F := RF none) hf hb trivial ?_ rfl
  simp only at hl k
  have hrel : Rel W0 G w fn.ntmps G (fun _ => none) (.init args) H { tmps := vs.toArray ++ Array.replicate (fn.ntmps - vs.toArray.size) undef, defers := [] } w := by
    refine { bw := hi.base.size, next := .refl G w, inv := hi, defers := .nil _ _ _, size := ?_, slots := fun t ht => .of ?_, locs := fun t cs e => by simp [AS.init] at e, linj := fun t t' B e => by simp [AS.init] at e, lrefs := fun t i off ht e => ?_, pnds := .nil fun _ => rfl }
    · simp [hv.1]; omega
    · simp only [AS.init]
      rw [Array.getD_eq_getD_getElem?, Array.getElem?_append]
      by_cases q : t < args.length
      · rw [if_pos (by simp [hv.1]; exact q)]
        have := hv.2 t q
        rw [List.getD_eq_getElem?_getD (l := vs)] at this
        simpa using this
      · rw [List.getD_eq_getElem?_getD, List.getElem?_eq_none (by omega)]
        exact .any _
    · simp only [AS.init] at e
      by_cases q : t < args.length
      · have := hv.2 t q
        rw [e] at this
        cases this
      · rw [List.getD_eq_getElem?_getD, List.getElem?_eq_none (by omega)] at e
        cases e
  refine Go.wpIn_mono (code_soundG (ro := none) c ac _ (.inl rfl) hac hrel k) (fun e ca w' q => ?_)
  have fin : Post W0 G w fn.ntmps (retQ rs Q .ret) ca w' → LeavesInM (RF none) 3 P fn ca.tmps (fun e w' => ∃ v r H' G', e = .returned v ∧ Q r H' ∧ Next G w G' w' ∧ HInv W0 H' G' w' ∧ VRel G' r v) ca.defers .returning w' := by
    rintro ⟨st, H', k, G', L', h⟩
    obtain ⟨Ds, hds, _⟩ := h.defers
    refine leaves_marks Ds h hds (fun ca2 w2 e2 h => ?_)
    rw [← e2]
    clear hds e2
    simp only [retQ] at k
    split at k
    · rename_i r hr
      have key : ∃ vs, (fn.results.toList.mapM (resSem ca2.tmps)).run P w2 = .ok vs w2 ∧ VRel G' r (oneOf vs) := by
        unfold resAV at hr
        split at hr
        · rename_i a
          obtain ⟨us, hus, hru⟩ := ress_sound (xs := [r]) h hrs (by simp [hr])
          obtain ⟨u, us', rfl, h1, h2⟩ := hru.head
          have := h2.eq_nil
          subst this
          exact ⟨[u], hus, h1⟩
        · rename_i hne
          simp only [Option.map_eq_some_iff] at hr
          obtain ⟨xs, hxs, rfl⟩ := hr
          obtain ⟨us, hus, hru⟩ := ress_sound h hrs hxs
          refine ⟨us, hus, ?_⟩
          have hlen : us.length ≠ 1 := by
            have h1 := (mapM_get hxs).1
            have h2 := hru.1
            intro q
            obtain ⟨a, ha⟩ := List.length_eq_one_iff.1 (show rs.length = 1 by omega)
            exact hne a ha
          match us, hlen with
          | [], _ => exact .tup _ _ hru.1 hru.2
          | [u], q => exact absurd rfl q
          | a :: b :: c, _ => exact .tup _ _ hru.1 hru.2
      obtain ⟨us, hus, hru⟩ := key
      exact ⟨_, results_run hus, _, r, H', G', rfl, k, h.next, h.inv, hru⟩
    · exact k.elim
  cases e with
  | normal => exact fin q
  | ret => exact fin q
  | exit id =>
    obtain ⟨_, _, k, _⟩ := q
    exact k.elim
  | _ => exact q.elim
end
end Go.Qa
/- The abstract machine: operations with their operands in place. -/
namespace Go.Qa
open Go Go.RowKit

noncomputable def gv (s : Tr AV) : Opd → AV
  | .t i => (s.get i).getD .any
  | .c x => x
theorem gv_eq (s : Tr AV) (o : Opd) : gv s o = (mkS s).ev o := by cases o <;> rfl
/-- The state of no slots. -/
noncomputable def S0 : AS := mkS .e

/-! ### Operations with their operands in place -/
noncomputable def subO (s : Tr AV) (o : Opd) : Opd := .c (gv s o)
noncomputable def PExp.sub (s : Tr AV) : PExp → PExp
  | .mov x => .mov (subO s x)
  | .pick c a b => .pick (subO s c) (subO s a) (subO s b)
  | .load n x => .load n (subO s x)
  | .nilck x => .nilck (subO s x)
  | .bin op x y => .bin op (subO s x) (subO s y)
  | .un op x => .un op (subO s x)
  | .i2i k x => .i2i k (subO s x)
  | .off o x => .off o (subO s x)
  | .iaddr z x i => .iaddr z (subO s x) (subO s i)
  | .idxS x i => .idxS (subO s x) (subO s i)
  | .slS x lo hi => .slS (subO s x) (lo.map (subO s)) (hi.map (subO s))
  | .slR z x lo hi mx => .slR z (subO s x) (lo.map (subO s)) (hi.map (subO s)) (mx.map (subO s))
  | .extr x i => .extr (subO s x) i
  | .lenS x => .lenS (subO s x)
  | .lenR x => .lenR (subO s x)
  | .mkfn f a b => .mkfn f (a.map (subO s)) (b.map (subO s))
  | .build z ps => .build z (ps.map fun p => (p.1, p.2.1, subO s p.2.2))
noncomputable def XExp.sub (s : Tr AV) : XExp → XExp
  | .eqs k n x y => .eqs k n (subO s x) (subO s y)
  | .lookup k z x i ok => .lookup k z (subO s x) (subO s i) ok
  | .aaddr l z x i => .aaddr l z (subO s x) (subO s i)
  | .sarr n z x => .sarr n z (subO s x)
  | .fld o n x => .fld o n (subO s x)
  | .lenM x => .lenM (subO s x)
  | .entry x => .entry (subO s x)
  | .b2s x => .b2s (subO s x)
  | .ssame x => .ssame (subO s x)
  | .mkif t x => .mkif t (subO s x)
  | .imin x y => .imin (subO s x) (subO s y)
  | .imax x y => .imax (subO s x) (subO s y)
noncomputable def EOp.sub (s : Tr AV) : EOp → EOp
  | .alloc b z => .alloc b z
  | .box b x => .box b (subO s x)
  | .store n x v => .store n (subO s x) (subO s v)
  | .call f args => .call (subO s f) (args.map (subO s))
  | .bslice z xs => .bslice z (xs.map (subO s))
  | .append z b t x y => .append z b t (subO s x) (subO s y)
  | .appendA z b t x y => .appendA z b t (subO s x) (subO s y)
  | .mksl z b zero l c => .mksl z b zero (subO s l) (subO s c)
  | .mkmap => .mkmap
  | .copy z x y => .copy z (subO s x) (subO s y)
  | .clr za x => .clr za (subO s x)
  | .mupd k m key v => .mupd k (subO s m) (subO s key) (subO s v)
  | .range x => .range (subO s x)
  | .next x => .next (subO s x)
  | .s2b a x => .s2b a (subO s x)
  | .no => .no
theorem ev_sub (s : Tr AV) (o : Opd) : S0.ev (subO s o) = (mkS s).ev o := by rw [← gv_eq]; rfl
theorem map_sub (s : Tr AV) (l : List Opd) : (l.map (subO s)).map S0.ev = l.map (mkS s).ev := by
  rw [List.map_map]
  exact List.map_congr_left fun o _ => ev_sub s o
theorem omap_sub (s : Tr AV) (l : Option Opd) : (l.map (subO s)).map S0.ev = l.map (mkS s).ev := by
  cases l with
  | none => rfl
  | some o => simp only [Option.map_some, ev_sub]
theorem asI_sub (s : Tr AV) (l : Option Opd) : ((l.map (subO s)).map fun o => (S0.ev o).asI) = l.map fun o => ((mkS s).ev o).asI := by
  cases l with
  | none => rfl
  | some o => simp only [Option.map_some, ev_sub]
theorem bd_sub (s : Tr AV) (l : Option Opd) (d : Nat) : S0.bd (l.map (subO s)) d = (mkS s).bd l d := by
  cases l with
  | none => rfl
  | some o => simp only [AS.bd, Option.map_some, ev_sub]
theorem PExp.sub_ev (e : PExp) (s : Tr AV) (h : EH) : (e.sub s).evE S0 h = e.evE (mkS s) h := by
  cases e with
  | load n x => cases n <;> simp only [PExp.sub, PExp.evE, ev_sub]
  | _ => simp only [PExp.sub, PExp.evE, PExp.ev, ev_sub, map_sub, bd_sub, asI_sub, List.map_map, Function.comp_def] <;> try rfl
theorem XExp.sub_ev (e : XExp) (s : Tr AV) (h : EH) : (e.sub s).evE S0 h = e.evE (mkS s) h := by
  cases e <;> simp only [XExp.sub, XExp.evE, ev_sub, map_sub] <;> try rfl
theorem EOp.sub_ev (go : GoE) (e : EOp) (s : Tr AV) (h : EH) : (e.sub s).evE go S0 h = e.evE go (mkS s) h := by
  cases e <;> simp only [EOp.sub, EOp.evE, ev_sub, map_sub] <;> try rfl

section
variable (P : Program) (W0 : World)
noncomputable def opJ (op : AOp) (s : Tr AV) (h : EH) (k : AV → EH → Prop) : Prop :=
  match op with
  | .pu (.mov x) => k (gv s x) h
  | .pu e => optP ((e.sub s).evE S0 h) fun v => k v h
  | .px e => optP ((e.sub s).evE S0 h) fun v => k v h
  | .ef (.call f args) => callS P W0 (gv s f) (args.map (gv s)) h k
  | .ef (.next x) => nextS (gv s x) h k
  | .ef e => optP ((e.sub s).evE go0 S0 h) fun p => k p.1 p.2
end
theorem optP_pair {x : Option AV} {h : EH} {k : AV → EH → Prop} (e : optP x fun v => k v h) : optP (match x with | some r => some (r, h) | none => none) fun p => k p.1 p.2 := by
  cases x with
  | none => exact e
  | some a => exact e
theorem opJ_opS {P : Program} {W0 : World} {op : AOp} {s : Tr AV} {h : EH} {k : AV → EH → Prop} (e : opJ P W0 op s h k) : opS P W0 op s h k := by
  have em : ∀ args : List Opd, args.map (gv s) = args.map (mkS s).ev := fun args => List.map_congr_left fun o _ => gv_eq s o
  cases op with
  | pu x =>
    have rest : optP ((x.sub s).evE S0 h) (fun v => k v h) → opS P W0 (.pu x) s h k := fun e => by
      rw [PExp.sub_ev] at e
      exact optP_pair e
    cases x with
    | mov y =>
      simp only [opS, AOp.evE, PExp.evE, PExp.ev, optP_some]
      rw [← gv_eq]
      exact e
    | _ => exact rest e
  | px x =>
    simp only [opJ] at e
    rw [XExp.sub_ev] at e
    exact optP_pair e
  | ef x =>
    have rest : optP ((x.sub s).evE go0 S0 h) (fun p => k p.1 p.2) → optP ((AOp.ef x).evE go0 (mkS s) h) (fun p => k p.1 p.2) := fun e => by
      rw [EOp.sub_ev] at e
      exact e
    cases x with
    | call f args =>
      simp only [opJ] at e
      rw [gv_eq, em] at e
      exact e
    | next y =>
      simp only [opJ] at e
      rw [gv_eq] at e
      exact e
    | _ => exact rest e
theorem callS_mono {P : Program} {W0 : World} {f : AV} {args : List AV} {h : EH} {k k' : AV → EH → Prop} (e : callS P W0 f args h k) (m : ∀ v h', k v h' → k' v h') : callS P W0 f args h k' := by
  unfold callS at e ⊢
  split at e
  · exact ⟨e.1, e.2.mono m⟩
  · exact ⟨e.1, AYields.mono e.2 fun r H' ⟨h', e1, q⟩ => ⟨h', e1, m _ _ q⟩⟩
  · exact e.elim
theorem nextS_mono {x : AV} {h : EH} {k k' : AV → EH → Prop} (e : nextS x h k) (m : ∀ v h', k v h' → k' v h') : nextS x h k' := by
  unfold nextS at e ⊢
  split at e
  · split at e
    · exact m _ _ e
    · split at e
      · refine ⟨e.1, fun c hc => ?_⟩
        have := e.2 c hc
        cases c with
        | none => exact m _ _ this
        | some p => exact m _ _ this
      · exact e.elim
    · exact e.elim
  · exact e.elim
theorem opJ_mono {P : Program} {W0 : World} {op : AOp} {s : Tr AV} {h : EH} {k k' : AV → EH → Prop} (e : opJ P W0 op s h k) (m : ∀ v h', k v h' → k' v h') : opJ P W0 op s h k' := by
  cases op with
  | pu x =>
    cases x with
    | mov y => exact m _ _ e
    | _ => exact optP_mono e fun v => m v h
  | px x => exact optP_mono e fun v => m v h
  | ef x =>
    cases x with
    | call f args => exact callS_mono e m
    | next y => exact nextS_mono e m
    | _ => simp only [opJ] at e ⊢; exact optP_mono e fun p => m _ _

def condG (x : AV) (want : Bool) (a b : Prop) : Prop :=
  match x with
  | .bool t => if t = want then a else b
  | .pl (.tuple _) => b
  | _ => False
theorem condG_mono {x : AV} {want : Bool} {a b a' b' : Prop} (e : condG x want a b) (ha : a → a') (hb : b → b') : condG x want a' b' := by
  unfold condG at e ⊢
  split at e
  · split
    · rename_i q; rw [if_pos q] at e; exact ha e
    · rename_i q; rw [if_neg q] at e; exact hb e
  · exact hb e
  · exact e.elim
def memB (i : Nat) (l : List Nat) : Bool := l.any (Nat.beq i)
theorem memB_iff {i : Nat} {l : List Nat} : memB i l = true ↔ i ∈ l := by
  simp [memB]
section
variable (P : Program) (W0 : World)
noncomputable def operJ (o : AOper) (s : Tr AV) (h : EH) (k : AV → EH → Prop) : Prop :=
  match o.guard with
  | none => opJ P W0 o.op s h k
  | some (t, w) => condG (gv s (.t t)) w (opJ P W0 o.op s h k) (k (.pl undef) h)
end
section
variable {P : Program} {W0 : World}
theorem operJ_mono {o : AOper} {s : Tr AV} {h : EH} {k k' : AV → EH → Prop} (e : operJ P W0 o s h k) (m : ∀ v h', k v h' → k' v h') : operJ P W0 o s h k' := by
  unfold operJ at e ⊢
  split
  · rename_i q; rw [q] at e; exact opJ_mono e m
  · rename_i t w q
    rw [q] at e
    exact condG_mono e (fun e => opJ_mono e m) (m _ _)
end
end Go.Qa
