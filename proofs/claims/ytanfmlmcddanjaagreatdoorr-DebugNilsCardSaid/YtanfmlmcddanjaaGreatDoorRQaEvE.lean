/- The abstract machine: a run that the kernel can reckon: code and calls. -/
import Derived.Test.YtanfmlmcddanjaaGreatDoorRQaEvD
import Derived.Test.YtanfmlmcddanjaaGreatDoorRQaLoop
set_option linter.all false
namespace Go.Qa
open Go Go.RowKit

inductive ECode where
  | skip
  | ops (l : List AOper)
  | draw (l : List DStep) (cks : List (Nat × List Nat))
  | seq (a b : ECode)
  | cond (c : Opd) (x y : ECode)
  | block (id : Nat) (c : ECode)
  | loop (c : ECode)
  | exit (id : Nat)
  | ret
  | rangef (N : Nat) (f : Opd) (ps : List Nat) (asg body : Code)
  | no
  deriving Inhabited
def toE : ACode → Option ECode
  | .skip => some .skip
  | .ops l => some (.ops l)
  | .draw l after pn pubs => if planOk l after pn pubs (cksOf l after pn pubs) then some (.draw (stepsOf l pn pubs) (cksOf l after pn pubs)) else some .no
  | .seq a b => (toE a).bind fun a => (toE b).map fun b => .seq a b
  | .cond c x y => (toE x).bind fun x => (toE y).map fun y => .cond c x y
  | .block id c => (toE c).map fun c => .block id c
  | .loop c => (toE c).map fun c => .loop c
  | .exit id => some (.exit id)
  | .ret => some .ret
  | .rangef N f ps asg body => some (.rangef N f ps asg body)
  | .no => some .no
structure EFun where
  n : Nat
  res : List ARes
  code : ECode
  deriving Inhabited
def eFunc (P : Program) (hs : List Nat) (fn : Func) : Option EFun := (cFunc P hs fn).bind fun af => (toE af.code).map fun c => ⟨af.n, af.res, c⟩
inductive EEnt where
  | fn (f : EFun)
  | prim (p : List AV → EH → Option (AV × EH))
inductive ER where
  | bad
  | ok (x : AExit) (s : Tr AV) (h : EH)

noncomputable def initT (args : List AV) : Nat → Tr AV → Tr AV :=
  List.rec (motive := fun _ => Nat → Tr AV → Tr AV) (fun _ t => t) (fun a _ ih i t => ih (i + 1) (t.put i a)) args
theorem initT_get : ∀ (args : List AV) (i : Nat) (t : Tr AV) (j : Nat), (initT args i t).get j = if i ≤ j ∧ j < i + args.length then args[j - i]? else t.get j
  | [], i, t, j => by
    show t.get j = _
    rw [if_neg (by simp)]
  | a :: r, i, t, j => by
    show (initT r (i + 1) (t.put i a)).get j = _
    rw [initT_get r, Tr.get_put]
    simp only [List.length_cons]
    by_cases e : j = i
    · subst e
      rw [if_neg (by omega), if_pos rfl, if_pos (by omega)]; simp
    · by_cases q : i + 1 ≤ j ∧ j < i + 1 + r.length
      · rw [if_pos q, if_pos (by omega), show j - i = (j - (i + 1)) + 1 by omega, List.getElem?_cons_succ]
      · rw [if_neg q, if_neg e, if_neg (by omega)]
theorem mkS_initT (args : List AV) : mkS (initT args 0 .e) = .init args := by
  simp only [mkS, AS.init, AS.mk.injEq, and_true]
  funext j
  rw [initT_get, Tr.get_e, List.getD_eq_getElem?_getD]
  split
  · simp
  · rename_i q
    rw [List.getElem?_eq_none (by omega)]

noncomputable def ARes.evE (r : ARes) (s : Tr AV) (h : EH) : Option AV :=
  match r with
  | .t i => sel ((mkS s).s i).glob (some ((mkS s).s i)) none
  | .c i n => (PExp.load n (.t i)).evE (mkS s) h
noncomputable def ressE (s : Tr AV) (h : EH) : List ARes → Option (List AV)
  | [] => some []
  | r :: rs => match r.evE s h with
    | some x => match ressE s h rs with
      | some xs => some (x :: xs)
      | none => none
    | none => none
noncomputable def resE (rs : List ARes) (s : Tr AV) (h : EH) : Option AV :=
  match ressE s h rs with
  | some [x] => some x
  | some xs => some (.tup xs)
  | none => none
theorem ARes.evE_ok {r : ARes} {s : Tr AV} {h : EH} {x : AV} (e : r.evE s h = some x) : r.ev (mkS s) h.list = some x := by
  cases r with
  | t i =>
    obtain ⟨q, e⟩ := sel_some e
    simp only [ARes.ev, q, if_true]; exact e
  | c i n => exact PExp.evE_ok e
theorem ressE_ok {s : Tr AV} {h : EH} : ∀ {rs : List ARes} {xs : List AV}, ressE s h rs = some xs → rs.mapM (fun r => r.ev (mkS s) h.list) = some xs
  | [], xs, e => by cases e; rfl
  | r :: rs, xs, e => by
    simp only [ressE] at e
    split at e
    · rename_i x hx
      split at e
      · rename_i ys hy
        cases e
        simp [List.mapM_cons, ARes.evE_ok hx, ressE_ok hy]
      · cases e
    · cases e
theorem resE_ok {rs : List ARes} {s : Tr AV} {h : EH} {x : AV} (e : resE rs s h = some x) : resAV rs (mkS s) h.list = some x := by
  unfold resE at e
  unfold resAV
  split at e
  · rename_i y hy
    cases e
    have := ressE_ok hy
    split
    · rename_i r
      cases hr : r.ev (mkS s) h.list with
      | none => simp [hr] at this
      | some z => simp [hr] at this; rw [this]
    · rename_i q
      have hl := (mapM_get this).1
      obtain ⟨a, ha⟩ := List.length_eq_one_iff.1 (show rs.length = 1 by simpa using hl.symm)
      exact absurd ha (q a)
  · rename_i xs hx q
    cases e
    have := ressE_ok q
    split
    · rename_i r
      have hl := (mapM_get this).1
      obtain ⟨a, ha⟩ := List.length_eq_one_iff.1 (show xs.length = 1 by simpa using hl)
      exact absurd ha (hx a)
    · rw [this]; rfl
  · cases e

noncomputable def evOps (go : GoE) (l : List AOper) : Tr AV → EH → ER :=
  List.rec (motive := fun _ => Tr AV → EH → ER) (fun s h => .ok .normal s h)
    (fun o _ ih s h => match o.evE go (mkS s) h with
      | some (v, h') => fAV v fun v => fEH h' fun h' => putOK s o.dst v fun s => ih s h'
      | none => .bad) l
theorem evOps_nil (go : GoE) (s : Tr AV) (h : EH) : evOps go [] s h = .ok .normal s h := rfl
theorem evOps_cons (go : GoE) (o : AOper) (l : List AOper) (s : Tr AV) (h : EH) : evOps go (o :: l) s h = match o.evE go (mkS s) h with
      | some (v, h') => evOps go l (putO s o.dst v) h'
      | none => .bad := by
  show (match o.evE go (mkS s) h with
      | some (v, h') => fAV v fun v => fEH h' fun h' => putOK s o.dst v fun s => evOps go l s h'
      | none => .bad) = _
  cases o.evE go (mkS s) h with
  | none => rfl
  | some p => simp only [fAV_eq, fEH_eq, putOK_eq]
/-- The slots of a round. -/
noncomputable def roundT (ss : List AV) (ps : List Nat) (args : List AV) : Tr AV := (ps.zip args).foldl (fun t p => t.put p.1 p.2) (initT ss 0 .e)
theorem mkS_roundT (ss : List AV) (ps : List Nat) (args : List AV) : mkS (roundT ss ps args) = roundS ss ps args := by
  have key : ∀ (l : List (Nat × AV)) (t : Tr AV), mkS (l.foldl (fun t p => t.put p.1 p.2) t) = l.foldl (fun st p => st.set (some p.1) p.2) (mkS t) := by
    intro l
    induction l with
    | nil => intro t; rfl
    | cons p l ih =>
      intro t
      have := mkS_putO t (some p.1) p.2
      simp only [putO] at this
      rw [List.foldl_cons, List.foldl_cons, ih, this]
  unfold roundT roundS
  rw [key, mkS_initT]
  rfl
noncomputable def endE (b : Nat) (e : AExit) (h : EH) : Option (AV × EH) :=
  match h.get b with
  | some (.loop true ss ps asg body _) => match e with
    | .normal => some (.bool true, h.set b (.loop false ss ps asg body none))
    | .ret => some (.bool false, h.set b (.loop false ss ps asg body (some .ret)))
    | .exit id => some (.bool false, h.set b (.loop false ss ps asg body (some (.exit id))))
  | _ => none
noncomputable def roundE (P : Program) (rec : ECode → Tr AV → EH → ER) (b : Nat) (args : List AV) (h : EH) : Option (AV × EH) :=
  match h.get b with
  | some (.loop false ss ps asg body none) => sel (codeCalm asg && codeCalm body && Nat.beq args.length ps.length) (match (cCode P ss.length (List.range ss.length) asg).bind toE, (cCode P ss.length (List.range ss.length) body).bind toE with
    | some ea, some eb => match rec ea (roundT ss ps args) h with
      | .ok .normal s1 h1 => match h1.get b with
        | some (.loop false ss1 ps1 asg1 body1 none) => match rec eb s1 (h1.set b (.loop true ss1 ps1 asg1 body1 none)) with
          | .ok e s2 h2 => endE b e h2
          | .bad => none
        | _ => none
      | _ => none
    | _, _ => none) none
  | _ => none
noncomputable def goOf (P : Program) (FT : Nat → Option EEnt) (rec : ECode → Tr AV → EH → ER) : GoE := fun isf f args h =>
  sel isf (match FT f with
  | some (.fn ef) => sel (Nat.ble args.length ef.n) (match rec ef.code (initT args 0 .e) h with
    | .ok (.exit _) _ _ => none
    | .ok _ s' h' => match resE ef.res s' h' with
      | some r => some (r, h')
      | none => none
    | .bad => none) none
  | some (.prim p) => p args h
  | none => none) (roundE P rec f args h)
/-- How a loop over a function was left. -/
noncomputable def outE (b : Nat) (s : Tr AV) (h : EH) : ER :=
  match h.get b with
  | some (.loop false _ _ _ _ none) => .ok .normal s (h.set b .dead)
  | some (.loop false _ _ _ _ (some .ret)) => .ok .ret s (h.set b .dead)
  | some (.loop false _ _ _ _ (some (.exit id))) => .ok (.exit id) s (h.set b .dead)
  | _ => .bad
noncomputable def rangeFE (go : GoE) (N : Nat) (f : AV) (ps : List Nat) (asg body : Code) (s : Tr AV) (h : EH) : ER :=
  match f with
  | .fn (.func g) first capt => sel ((first ++ capt).all AV.glob) (match go true g (first ++ .yfn h.n :: capt) (h.push (.loop false ((List.range N).map fun t => ((mkS s).s t).hide) ps asg body none)) with
    | some (_, h') => outE h.n s h'
    | none => .bad) .bad
  | _ => .bad
noncomputable def ER.then (r : ER) (k : Tr AV → EH → ER) : ER :=
  match r with
  | .ok .normal s h => k s h
  | r => r
noncomputable def ER.inBlock (id : Nat) (r : ER) : ER :=
  match r with
  | .ok (.exit i) s h => sel (Nat.beq i id) (.ok .normal s h) (.ok (.exit i) s h)
  | r => r
noncomputable def ae (P : Program) (FT : Nat → Option EEnt) (n : Nat) : ECode → Tr AV → EH → ER :=
  Nat.rec (motive := fun _ => ECode → Tr AV → EH → ER) (fun _ _ _ => .bad)
    (fun _ ih c s h => match c with
      | .skip => .ok .normal s h
      | .ops l => evOps (goOf P FT ih) l s h
      | .draw l cks => match evDraw (goOf P FT ih) l cks s h with
        | some (s', h') => .ok .normal s' h'
        | none => .bad
      | .seq a b => (ih a s h).then (ih b)
      | .cond c x y => match (mkS s).ev c with
        | .bool b => sel b (ih x s h) (ih y s h)
        | _ => .bad
      | .block id c => (ih c s h).inBlock id
      | .loop c => (ih c s h).then (ih (.loop c))
      | .exit id => .ok (.exit id) s h
      | .ret => .ok .ret s h
      | .rangef N f ps asg body => rangeFE (goOf P FT ih) N ((mkS s).ev f) ps asg body s h
      | .no => .bad) n
theorem ae_succ (P : Program) (FT : Nat → Option EEnt) (n : Nat) (c : ECode) (s : Tr AV) (h : EH) : ae P FT (n + 1) c s h = match c with
      | .skip => .ok .normal s h
      | .ops l => evOps (goOf P FT (ae P FT n)) l s h
      | .draw l cks => match evDraw (goOf P FT (ae P FT n)) l cks s h with
        | some (s', h') => .ok .normal s' h'
        | none => .bad
      | .seq a b => (ae P FT n a s h).then (ae P FT n b)
      | .cond c x y => match (mkS s).ev c with
        | .bool b => sel b (ae P FT n x s h) (ae P FT n y s h)
        | _ => .bad
      | .block id c => (ae P FT n c s h).inBlock id
      | .loop c => (ae P FT n c s h).then (ae P FT n (.loop c))
      | .exit id => .ok (.exit id) s h
      | .ret => .ok .ret s h
      | .rangef N f ps asg body => rangeFE (goOf P FT (ae P FT n)) N ((mkS s).ev f) ps asg body s h
      | .no => .bad := rfl

/-- The table tells of the program. -/
def EntOk (P : Program) (W0 : World) (f : FuncId) : EEnt → Prop
  | .fn ef => ∃ fn hs, P.funcs[f]? = some fn ∧ (fn.name == "runtime.NumGoroutine") = false ∧ eFunc P hs fn = some ef
  | .prim p => ∀ args h r h', p args h = some (r, h') → ACalls P W0 f args h.list fun r' H' => r' = r ∧ H' = h'.list
def FTOk (P : Program) (W0 : World) (FT : Nat → Option EEnt) : Prop := ∀ f e, FT f = some e → EntOk P W0 f e

section
variable {P : Program} {W0 : World} {FT : Nat → Option EEnt}
theorem evOps_ok {go : GoE} (hgo : GoOk P W0 go) {K : AS → AHeap → Prop} : ∀ {l : List AOper} {s s' : Tr AV} {h h' : EH} {x : AExit}, evOps go l s h = .ok x s' h' → (x = .normal ∧ (K (mkS s') h'.list → awpOps P W0 l K (mkS s) h.list))
  | [], s, s', h, h', x, e => by
    rw [evOps_nil] at e
    cases e
    exact ⟨rfl, fun k => k⟩
  | o :: l, s, s', h, h', x, e => by
    rw [evOps_cons] at e
    split at e
    · rename_i v h1 ho
      obtain ⟨rfl, ih⟩ := evOps_ok hgo (K := K) e
      refine ⟨rfl, fun k => ?_⟩
      refine AOper.evE_ok hgo ho ?_
      rw [← mkS_putO]
      exact ih k
    · cases e
theorem goOf_ok {n : Nat} (hft : FTOk P W0 FT) (ih : ∀ (c : ECode) (ac : ACode) (s s' : Tr AV) (h h' : EH) (x : AExit) (Q : AQ), toE ac = some c → ae P FT n c s h = .ok x s' h' → Q x (mkS s') h'.list → awp P W0 ac Q (mkS s) h.list) : GoOk P W0 (goOf P FT (ae P FT n)) := by
  refine ⟨fun f args h r h' e => ?_, fun b args h r h' e => ?_⟩
  · unfold goOf at e
    rw [sel_true] at e
    split at e
    · rename_i ef hf
      obtain ⟨q, e⟩ := sel_some e
      obtain ⟨fn, hs, h1, h2, h3⟩ := hft f _ hf
      simp only [eFunc, Option.bind_eq_some_iff, Option.map_eq_some_iff] at h3
      obtain ⟨af, h3, c, hc, rfl⟩ := h3
      refine acalls_of h1 h2 h3 (by simpa using q) ?_
      rw [← mkS_initT]
      have fin : ∀ x s' h1, ae P FT n c (initT args 0 .e) h = .ok x s' h1 → (x = .normal ∨ x = .ret) → resE af.res s' h1 = some r → h1 = h' → awp P W0 af.code (retQ af.res fun r' H' => r' = r ∧ H' = h'.list) (mkS (initT args 0 .e)) h.list := by
        intro x s' h1 e1 hx hr hh
        refine ih c af.code _ s' _ h1 x _ hc e1 ?_
        have := resE_ok hr
        subst hh
        rcases hx with rfl | rfl <;> simp only [retQ, this, and_self]
      split at e
      · cases e
      · rename_i x s' h1 hne e1
        split at e
        · rename_i r' hr
          cases e
          refine fin x s' _ e1 ?_ hr rfl
          cases x with
          | normal => exact .inl rfl
          | ret => exact .inr rfl
          | exit i => exact (hne i rfl).elim
        · cases e
      · cases e
    · rename_i p hf
      exact hft f _ hf args h r h' e
    · cases e
  · unfold goOf at e
    rw [sel_false] at e
    unfold roundE at e
    split at e
    rotate_left
    · cases e
    rename_i ss ps asg body hb
    obtain ⟨q, e⟩ := sel_some e
    simp only [Bool.and_eq_true, Nat.beq_eq] at q
    split at e
    rotate_left
    · cases e
    rename_i ea eb hea heb
    simp only [Option.bind_eq_some_iff] at hea heb
    obtain ⟨ac, hac, hea⟩ := hea
    obtain ⟨bc, hbc, heb⟩ := heb
    refine ayields_of (by rw [EH.get_list]; exact hb) hac q.1.1 hbc q.1.2 q.2 ?_
    rw [← mkS_roundT]
    split at e
    rotate_left
    · cases e
    rename_i s1 h1 e1
    refine ih ea ac _ _ _ _ .normal _ hea e1 ?_
    split at e
    rotate_left
    · cases e
    rename_i ss1 ps1 asg1 body1 hb1
    simp only [roundA, EH.get_list, hb1]
    split at e
    rotate_left
    · cases e
    rename_i x s2 h2 e2
    rw [← EH.set_list _ _ _ (by rw [hb1]; simp)]
    refine ih eb bc _ _ _ _ x _ heb e2 ?_
    unfold endE at e
    split at e
    rotate_left
    · cases e
    rename_i ss2 ps2 asg2 body2 p2 hb2
    simp only [roundQ, EH.get_list, hb2]
    cases x <;> simp only at e ⊢ <;> cases e <;> exact ⟨rfl, (EH.set_list _ _ _ (by rw [hb2]; simp)).symm⟩
theorem ae_ok (hft : FTOk P W0 FT) : ∀ (n : Nat) (c : ECode) (ac : ACode) (s s' : Tr AV) (h h' : EH) (x : AExit) (Q : AQ), toE ac = some c → ae P FT n c s h = .ok x s' h' → Q x (mkS s') h'.list → awp P W0 ac Q (mkS s) h.list := by
  intro n
  induction n using Nat.strongRecOn with
  | _ n ih =>
  cases n with
  | zero => intro c ac s s' h h' x Q hc e; cases e
  | succ n =>
  have ihn := ih n (by omega)
  have hgo : GoOk P W0 (goOf P FT (ae P FT n)) := goOf_ok hft ihn
  intro c ac s s' h h' x Q hc e k
  cases ac with
  | skip => cases hc; rw [ae_succ] at e; cases e; exact k
  | exit id => cases hc; rw [ae_succ] at e; cases e; exact k
  | ret => cases hc; rw [ae_succ] at e; cases e; exact k
  | no => cases hc; rw [ae_succ] at e; cases e
  | rangef N f ps asg body =>
    cases hc
    rw [ae_succ] at e
    simp only [rangeFE] at e
    simp only [awp]
    split at e
    rotate_left
    · cases e
    rename_i g first capt hf
    rw [hf]
    rw [sel_eq] at e
    split at e
    rotate_left
    · cases e
    rename_i hg
    split at e
    rotate_left
    · cases e
    rename_i r h1 hgo1
    refine ⟨hg, ?_⟩
    have := hgo.1 _ _ _ _ _ hgo1
    rw [EH.push_list] at this
    rw [EH.length_list]
    refine this.mono fun r' H' ⟨_, hH⟩ => ?_
    subst hH
    unfold outE at e
    split at e
    · rename_i hb
      cases e
      simp only [loopOut, EH.get_list, hb]
      rwa [EH.set_list _ _ _ (by rw [hb]; simp)] at k
    · rename_i hb
      cases e
      simp only [loopOut, EH.get_list, hb]
      rwa [EH.set_list _ _ _ (by rw [hb]; simp)] at k
    · rename_i hb
      cases e
      simp only [loopOut, EH.get_list, hb]
      rwa [EH.set_list _ _ _ (by rw [hb]; simp)] at k
    · cases e
  | ops l =>
    cases hc
    rw [ae_succ] at e
    obtain ⟨rfl, q⟩ := evOps_ok hgo (K := Q .normal) e
    exact q k
  | draw l after pn pubs =>
    simp only [toE] at hc
    split at hc
    · rename_i hp
      cases hc
      rw [ae_succ] at e
      simp only at e
      split at e
      · rename_i s1 h1 hd
        cases e
        exact draw_ok hgo hp hd k
      · cases e
    · cases hc; rw [ae_succ] at e; cases e
  | seq a b =>
    simp only [toE, Option.bind_eq_some_iff, Option.map_eq_some_iff] at hc
    obtain ⟨a', ha, b', hb, rfl⟩ := hc
    rw [ae_succ] at e
    simp only [ER.then] at e
    simp only [awp]
    split at e
    · rename_i s1 h1 e1
      exact ihn a' a _ _ _ _ .normal _ ha e1 (ihn b' b _ _ _ _ x Q hb e k)
    · rename_i hne
      refine ihn a' a _ _ _ _ x _ ha e ?_
      cases x with
      | normal => exact absurd e (hne _ _)
      | exit i => exact k
      | ret => exact k
  | cond c x1 y1 =>
    simp only [toE, Option.bind_eq_some_iff, Option.map_eq_some_iff] at hc
    obtain ⟨a', ha, b', hb, rfl⟩ := hc
    rw [ae_succ] at e
    simp only at e
    simp only [awp]
    split at e
    · rename_i b hcb
      cases b with
      | true => rw [sel_true] at e; simp only [hcb]; exact ihn a' x1 _ _ _ _ x Q ha e k
      | false => rw [sel_false] at e; simp only [hcb]; exact ihn b' y1 _ _ _ _ x Q hb e k
    · cases e
  | block id c =>
    simp only [toE, Option.map_eq_some_iff] at hc
    obtain ⟨a', ha, rfl⟩ := hc
    rw [ae_succ] at e
    simp only [ER.inBlock] at e
    simp only [awp]
    split at e
    · rename_i i s1 h1 e1
      rw [sel_eq] at e
      split at e
      · rename_i q
        cases e
        refine ihn a' c _ _ _ _ (.exit i) _ ha e1 ?_
        simp only [AQ.inBlock]
        rw [if_pos (by simpa using q)]; exact k
      · rename_i q
        cases e
        refine ihn a' c _ _ _ _ (.exit i) _ ha e1 ?_
        simp only [AQ.inBlock]
        rw [if_neg (by simpa using q)]; exact k
    · rename_i hne
      refine ihn a' c _ _ _ _ x _ ha e ?_
      cases x with
      | normal => exact k
      | exit i => exact absurd e (hne _ _ _)
      | ret => exact k
  | loop c =>
    have hc0 := hc
    simp only [toE, Option.map_eq_some_iff] at hc
    obtain ⟨a', ha, rfl⟩ := hc
    refine ⟨fun m st H => m ≤ n + 1 ∧ ∃ s h x s' h', st = mkS s ∧ H = h.list ∧ ae P FT m (.loop a') s h = .ok x s' h' ∧ Q x (mkS s') h'.list, n + 1, ⟨Nat.le_refl _, s, h, x, s', h', rfl, rfl, e, k⟩, ?_⟩
    rintro m st H ⟨hm, s, h, x, s', h', rfl, rfl, e, k⟩
    cases m with
    | zero => cases e
    | succ m =>
      rw [ae_succ] at e
      simp only [ER.then] at e
      have ihm := ih m (by omega)
      split at e
      · rename_i s1 h1 e1
        refine ihm a' c _ _ _ _ .normal _ ha e1 ?_
        exact ⟨m, by omega, by omega, s1, h1, x, s', h', rfl, rfl, e, k⟩
      · rename_i hne
        refine ihm a' c _ _ _ _ x _ ha e ?_
        cases x with
        | normal => exact absurd e (hne _ _)
        | exit i => exact k
        | ret => exact k
/-- A call that was reckoned. -/
theorem ae_call (hft : FTOk P W0 FT) {n : Nat} {f : FuncId} {args : List AV} {h h' : EH} {r : AV} (e : goOf P FT (ae P FT n) true f args h = some (r, h')) : ACalls P W0 f args h.list fun r' H' => r' = r ∧ H' = h'.list :=
  (goOf_ok hft (fun c ac s s' h h' x Q => ae_ok hft n c ac s s' h h' x Q)).1 f args h r h' e
end
end Go.Qa
