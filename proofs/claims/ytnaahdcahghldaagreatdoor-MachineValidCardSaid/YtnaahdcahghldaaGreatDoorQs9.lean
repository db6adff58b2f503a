/- The abstract machine: annotated code, and what it asks for, slot by slot: joins and loops by what is carried. -/
import Derived.Test.YtnaahdcahghldaaGreatDoorQs8
import Derived.Test.YtnaahdcahghldaaGreatDoorQs7
import Derived.Lib.Join
set_option linter.all false
namespace Go.Qa
open Go Go.RowKit

/-! ### Annotated code -/
inductive JCode where
  | skip
  | op (d : Option Nat) (o : AOp)
  | grp (t : Nat) (want : Bool) (c : JCode)
  | ops (c : JCode)
  | draw (l : List AOper) (after : List (List Nat)) (pn : List (Option APend)) (pubs : List (List Nat))
  | seq (K : Option (List Nat)) (a b : JCode)
  | cond (c : Opd) (x y : JCode)
  | block (id : Nat) (c : JCode)
  | loop (K : List Nat) (c : JCode)
  | exit (id : Nat)
  | ret
  | rangef (N : Nat) (f : Opd) (ps : List Nat) (asg body : Code)
  | no
  deriving Inhabited
def gw (g : Option (Nat × Bool)) (o : AOper) : AOper := ⟨o.dst, match o.guard with | none => g | some x => some x, o.op⟩
def jflat : JCode → List AOper
  | .op d o => [⟨d, none, o⟩]
  | .grp t w c => (jflat c).map (gw (some (t, w)))
  | .seq _ a b => jflat a ++ jflat b
  | _ => []
/-- It is a list of operations; a group's guard is not written within it, and each guard within it is of it. -/
def dsts (l : List AOper) : List Nat := l.filterMap (·.dst)
def skips (t : Nat) : List Nat → List AOper → Bool
  | _, [] => true
  | U, o :: r => (match o.guard with | none => true | some (t', _) => memB t' U) && (match o.dst with | some d => !Nat.beq d t && skips t (d :: U) r | none => skips t U r)
def writes0 : JCode → List Nat
  | .op d _ => d.toList
  | .grp _ _ c => writes0 c
  | .seq K a b => writes0 a ++ (K.getD [] ++ writes0 b)
  | _ => []
def opsy : JCode → Bool
  | .skip => true
  | .op _ _ => true
  | .grp t w c => opsy c && !memB t (writes0 c) && skips t [] (jflat c)
  | .seq _ a b => opsy a && opsy b
  | _ => false
noncomputable def undefs (l : List AOper) (s : Tr AV) : Tr AV := l.foldl (fun s o => putO s o.dst (.pl undef)) s

def strip : JCode → Option ACode
  | .skip => some .skip
  | .ops c => if opsy c then some (.ops (jflat c)) else none
  | .draw l after pn pubs => if dOk l after pn pubs then some (.draw l after pn pubs) else none
  | .seq _ a b => (strip a).bind fun a => (strip b).map fun b => .seq a b
  | .cond c x y => (strip x).bind fun x => (strip y).map fun y => .cond c x y
  | .block id c => (strip c).map fun c => .block id c
  | .loop _ c => (strip c).map fun c => .loop c
  | .exit id => some (.exit id)
  | .ret => some .ret
  | .rangef N f ps asg body => some (.rangef N f ps asg body)
  | .no => some .no
  | _ => none
def wrQ (d : QStep) : List Nat := d.pre.map (·.1) ++ d.op.dst.toList
def writes : JCode → List Nat
  | .op d _ => d.toList
  | .grp _ _ c => writes c
  | .ops c => writes c
  | .draw l after pn pubs => (dPlan l after pn pubs).steps.flatMap wrQ
  | .seq K a b => writes a ++ (K.getD [] ++ writes b)
  | .cond _ x y => writes x ++ writes y
  | .block _ c => writes c
  | .loop K c => writes c ++ K
  | _ => []

/-! ### What is carried -/
def Pd : List Nat → Type
  | [] => EH → Prop
  | _ :: r => AV → Pd r
noncomputable def appJ : (K : List Nat) → Pd K → Tr AV → EH → Prop
  | [], J, _, h => J h
  | i :: r, J, s, h => appJ r (J (gv s (.t i))) s h
noncomputable def allV : (K : List Nat) → Pd K → Tr AV → (Tr AV → EH → Prop) → Prop
  | [], J, t, X => ∀ h : EH, J h → X t h
  | i :: r, J, t, X => ∀ v : AV, allV r (J v) (t.put i v) X
noncomputable def anyT : List Nat → Tr AV → Tr AV
  | [], s => s
  | i :: r, s => anyT r (s.put i .any)
noncomputable def copyK : List Nat → Tr AV → Tr AV → Tr AV
  | [], _, t => t
  | i :: r, s, t => copyK r s (t.put i (gv s (.t i)))
theorem gv_put (s : Tr AV) (i j : Nat) (x : AV) : gv (s.put i x) (.t j) = if j = i then x else gv s (.t j) := by
  simp only [gv, Tr.get_put]
  split <;> rfl
theorem gv_anyT : ∀ (W : List Nat) (s : Tr AV) (i : Nat), gv (anyT W s) (.t i) = if i ∈ W then .any else gv s (.t i)
  | [], s, i => by simp [anyT]
  | w :: r, s, i => by
    rw [anyT, gv_anyT r, gv_put]
    by_cases q : i ∈ r
    · simp [q]
    · by_cases e : i = w <;> simp [q, e]
theorem gv_copyK : ∀ (K : List Nat) (s t : Tr AV) (i : Nat), gv (copyK K s t) (.t i) = if i ∈ K then gv s (.t i) else gv t (.t i)
  | [], s, t, i => by simp [copyK]
  | k :: r, s, t, i => by
    rw [copyK, gv_copyK r, gv_put]
    by_cases q : i ∈ r
    · simp [q]
    · by_cases e : i = k
      · subst e; simp [q]
      · simp [q, e]
theorem allV_app : ∀ {K : List Nat} {J : Pd K} {t : Tr AV} {X : Tr AV → EH → Prop} {s : Tr AV} {h : EH}, allV K J t X → appJ K J s h → X (copyK K s t) h
  | [], J, t, X, s, h, e, a => e h a
  | i :: r, J, t, X, s, h, e, a => allV_app (K := r) (e _) a
/-- Slots outside are as they were. -/
def Off (W : List Nat) (s s' : Tr AV) : Prop := ∀ i, i ∉ W → gv s' (.t i) = gv s (.t i)
theorem Off.refl (W : List Nat) (s : Tr AV) : Off W s s := fun _ _ => rfl
theorem Off.trans {W W' : List Nat} {s t u : Tr AV} (h : Off W s t) (k : Off W' t u) : Off (W ++ W') s u := fun i hi => by
  simp only [List.mem_append, not_or] at hi
  rw [k i hi.2, h i hi.1]
theorem Off.mono {W W' : List Nat} {s t : Tr AV} (h : Off W s t) (k : ∀ i ∈ W, i ∈ W') : Off W' s t := fun i hi => h i fun q => hi (k i q)
theorem Off.any (W : List Nat) (s : Tr AV) : Off W s (anyT W s) := fun i hi => by rw [gv_anyT, if_neg hi]
theorem Off.put (s : Tr AV) (d : Nat) (v : AV) : Off [d] s (s.put d v) := fun i hi => by rw [gv_put, if_neg (by simpa using hi)]
theorem Off.putO (s : Tr AV) (d : Option Nat) (v : AV) : Off d.toList s (putO s d v) := by
  cases d with
  | none => exact .refl _ _
  | some d => exact .put s d v
theorem allV_mono : ∀ {K : List Nat} {J : Pd K} {t : Tr AV} {X X' : Tr AV → EH → Prop}, allV K J t X → (∀ t' h, Off K t t' → X t' h → X' t' h) → allV K J t X'
  | [], J, t, X, X', e, m => fun h j => m _ _ (.refl _ _) (e h j)
  | i :: r, J, t, X, X', e, m => fun v => allV_mono (K := r) (e v) fun t' h o q => m t' h ((Off.put t i v).trans o) q

theorem condS_mono {x : AV} {a b a' b' : Prop} (e : condS x a b) (ha : a → a') (hb : b → b') : condS x a' b' := by
  unfold condS at e ⊢
  split at e
  · exact ⟨fun q => ha (e.1 q), fun q => hb (e.2 q)⟩
  · exact e.elim

/-- How a loop over a function is left: by its end or by a return. -/
noncomputable def outJ (b : Nat) (Q : SQ) (s : Tr AV) (h : EH) : Prop :=
  match h.get b with
  | some (.loop false _ _ _ _ none) => Q .normal s (h.set b .dead)
  | some (.loop false _ _ _ _ (some .ret)) => Q .ret s (h.set b .dead)
  | some (.loop false _ _ _ _ (some (.exit _))) => False
  | _ => False
theorem outJ_mono {b : Nat} {Q Q' : SQ} {s : Tr AV} {h : EH} (hq : ∀ x h, Q x s h → Q' x s h) (e : outJ b Q s h) : outJ b Q' s h := by
  unfold outJ at e ⊢
  split at e <;> first | exact hq _ _ e | exact e.elim
theorem outJ_outS {b : Nat} {Q : SQ} {s : Tr AV} {h : EH} (e : outJ b Q s h) : outS b Q s h := by
  unfold outJ at e
  unfold outS
  split at e <;> first | exact (show False from e).elim | (rename_i q; simp only [q]; exact e)
/-! ### Groups under a guard, within a region -/
def unG (t : Nat) (w : Bool) (d : QStep) : QStep := ⟨d.pre, d.pend, ⟨d.op.dst, match d.op.guard with | some (t', w') => if Nat.beq t' t && (w' == w) then none else some (t', w') | none => none, d.op.op⟩⟩
def dstNe (t : Nat) (d : Option Nat) : Bool := match d with | some x => !Nat.beq x t | none => true
theorem dstNe_ok {t : Nat} {d : Option Nat} (h : dstNe t d = true) : d ≠ some t := by
  intro e; subst e; simp [dstNe] at h
/-- How many steps are of a group. -/
def qLen0 (t : Nat) (w : Bool) : List Nat → List QStep → Nat
  | _, [] => 0
  | U, d :: r => match d.pre, d.pend, d.op.guard with
    | [], none, some (t', w') => if ((Nat.beq t' t && (w' == w)) || memB t' U) && dstNe t d.op.dst then qLen0 t w (d.op.dst.toList ++ U) r + 1 else 0
    | _, _, _ => 0
/-- What is asked again of the group's operations is asked within it. -/
def qClosed (cks : List (Nat × List Nat)) (p m : Nat) : Bool := cks.all fun c => !(Nat.ble p c.1 && Nat.blt c.1 (p + m)) || c.2.all fun q => Nat.ble q (p + m)
def qShr (cks : List (Nat × List Nat)) (p : Nat) : Nat → Nat
  | 0 => 0
  | m + 1 => match qClosed cks p (m + 1) with
    | true => m + 1
    | false => qShr cks p m
def qLen (t : Nat) (w : Bool) (cks : List (Nat × List Nat)) (p : Nat) (l : List QStep) : Nat := qShr cks p (qLen0 t w [] l)
def qDsts (l : List QStep) : List Nat := l.flatMap fun d => d.op.dst.toList
noncomputable def qUndef (l : List QStep) (s : Tr AV) : Tr AV := l.foldl (fun s d => putO s d.op.dst (.pl undef)) s
noncomputable def skipCk (cks : List (Nat × List Nat)) (h : EH) (ev : Evs) (k : Prop) : Nat → Nat → Prop
  | _, 0 => k
  | p, m + 1 => cksP cks (p + 1) h ev (skipCk cks h ev k (p + 1) m)
section
variable (P : Program) (W0 : World)
noncomputable def drawG (cks : List (Nat × List Nat)) : Nat → Nat → List QStep → Evs → (Tr AV → EH → Prop) → Tr AV → EH → Prop
  | 0, p, l, ev, k, s, h => drawC P W0 cks p l ev k s h
  | n + 1, p, [], ev, k, s, h => k s h
  | n + 1, p, d :: r, ev, k, s, h => match d.op.guard with
    | none => preC s d.pre s h fun s1 h1 => match d.pend with
      | some q => pendP q s1 (cksP cks (p + 1) h1 ev (drawG cks n (p + 1) r ev k s1 h1))
      | none => opJ P W0 d.op.op s1 h1 fun v h' => cksP cks (p + 1) h' ev (drawG cks n (p + 1) r (match keyCk cks p with | true => (p, d.op, s1, v) :: ev | false => ev) k (putO s1 d.op.dst v) h')
    | some (t, w) => match qLen t w cks p (d :: r) with
      | 0 => drawC P W0 cks p (d :: r) ev k s h
      | m + 1 => ∃ J : Pd (qDsts ((d :: r).take (m + 1))), allV (qDsts ((d :: r).take (m + 1))) J s (drawG cks n (p + (m + 1)) ((d :: r).drop (m + 1)) ev k) ∧
        condG (gv s (.t t)) w (drawG cks n p (((d :: r).take (m + 1)).map (unG t w)) ev (appJ (qDsts ((d :: r).take (m + 1))) J) s h)
          (skipCk cks h ev (appJ (qDsts ((d :: r).take (m + 1))) J (qUndef ((d :: r).take (m + 1)) s) h) p (m + 1))
end
section
variable (P : Program) (W0 : World)
noncomputable def sj : JCode → SQ → Tr AV → EH → Prop
  | .skip, Q, s, h => Q .normal s h
  | .op d o, Q, s, h => opJ P W0 o s h fun v h' => Q .normal (putO s d v) h'
  | .grp t w c, Q, s, h => condG (gv s (.t t)) w (sj c Q s h) (Q .normal (undefs (jflat c) s) h)
  | .ops c, Q, s, h => sj c Q s h
  | .draw l after pn pubs, Q, s, h => drawG P W0 (dPlan l after pn pubs).cks (2 * l.length + 2) 0 (dPlan l after pn pubs).steps [] (Q .normal) s h
  | .seq none a b, Q, s, h => sj a (nextQ (sj b Q) Q) s h
  | .seq (some K) a b, Q, s, h => ∃ J : Pd K, allV K J (anyT (writes a) s) (sj b Q) ∧ sj a (nextQ (appJ K J) Q) s h
  | .cond c x y, Q, s, h => condS (gv s c) (sj x Q s h) (sj y Q s h)
  | .block id c, Q, s, h => sj c (blockQ id Q) s h
  | .loop K c, Q, s, h => ∃ (J : Nat → Pd K) (n : Nat), appJ K (J n) s h ∧ ∀ n, allV K (J n) (anyT (writes c) s) (sj c (nextQ (fun s' h' => ∃ m, m < n ∧ appJ K (J m) s' h') Q))
  | .exit id, Q, s, h => Q (.exit id) s h
  | .ret, Q, s, h => Q .ret s h
  | .rangef N f ps asg body, Q, s, h => match gv s f with
    | .fn (.func g) first capt => (first ++ capt).all AV.glob = true ∧ SCalls P W0 g (first ++ .yfn h.n :: capt) (h.push (.loop false ((List.range N).map fun t => (gv s (.t t)).hide) ps asg body none)) fun _ h' => outJ h.n Q s h'
    | _ => False
  | .no, _, _, _ => False
end

section
variable {P : Program} {W0 : World}
theorem nextQ_mono {b b' : Tr AV → EH → Prop} {Q Q' : SQ} (hb : ∀ s h, b s h → b' s h) (hq : ∀ x s h, Q x s h → Q' x s h) : ∀ x s h, nextQ b Q x s h → nextQ b' Q' x s h
  | .normal, s, h, e => hb s h e
  | .exit i, s, h, e => hq _ s h e
  | .ret, s, h, e => hq _ s h e
theorem blockQ_mono {id : Nat} {Q Q' : SQ} (hq : ∀ x s h, Q x s h → Q' x s h) : ∀ x s h, blockQ id Q x s h → blockQ id Q' x s h
  | .normal, s, h, e => hq _ s h e
  | .exit i, s, h, e => by
    simp only [blockQ] at e ⊢
    split
    · rename_i q; rw [if_pos q] at e; exact hq _ _ _ e
    · rename_i q; rw [if_neg q] at e; exact hq _ _ _ e
  | .ret, s, h, e => hq _ s h e
theorem outS_mono {b : Nat} {Q Q' : SQ} {s : Tr AV} {h : EH} (hq : ∀ x h, Q x s h → Q' x s h) (e : outS b Q s h) : outS b Q' s h := by
  unfold outS at e ⊢
  split at e <;> first | exact hq _ _ e | exact e.elim
theorem undefs_off : ∀ (l : List AOper) (s : Tr AV), Off (dsts l) s (undefs l s)
  | [], s => .refl _ _
  | o :: r, s => by
    have h1 := Off.putO s o.dst (.pl undef)
    have h2 := undefs_off r (putO s o.dst (.pl undef))
    refine (h1.trans h2).mono fun i hi => ?_
    simp only [List.mem_append] at hi
    cases hd : o.dst with
    | none => rw [hd] at hi; simpa [dsts, hd] using hi
    | some d => rw [hd] at hi; simpa [dsts, hd] using hi
theorem dsts_gw (g : Option (Nat × Bool)) (l : List AOper) : dsts (l.map (gw g)) = dsts l := by
  simp only [dsts, List.filterMap_map]
  rfl
theorem dsts_jflat : ∀ (c : JCode), ∀ i ∈ dsts (jflat c), i ∈ writes c
  | .op d o, i, hi => by cases d <;> simp [jflat, dsts, writes] at hi ⊢; exact hi
  | .grp t w c, i, hi => by
    simp only [jflat, dsts_gw] at hi
    exact dsts_jflat c i hi
  | .seq K a b, i, hi => by
    simp only [jflat, dsts, List.filterMap_append, List.mem_append] at hi
    simp only [writes, List.mem_append]
    rcases hi with hi | hi
    · exact .inl (dsts_jflat a i hi)
    · exact .inr (.inr (dsts_jflat b i hi))
  | .skip, i, hi => by simp [jflat, dsts] at hi
  | .ops _, i, hi => by simp [jflat, dsts] at hi
  | .draw _ _ _ _, i, hi => by simp [jflat, dsts] at hi
  | .cond _ _ _, i, hi => by simp [jflat, dsts] at hi
  | .block _ _, i, hi => by simp [jflat, dsts] at hi
  | .loop _ _, i, hi => by simp [jflat, dsts] at hi
  | .exit _, i, hi => by simp [jflat, dsts] at hi
  | .ret, i, hi => by simp [jflat, dsts] at hi
  | .rangef _ _ _ _ _, i, hi => by simp [jflat, dsts] at hi
  | .no, i, hi => by simp [jflat, dsts] at hi
theorem preE_off {s0 : Tr AV} : ∀ {l : List (Nat × APend)} {s s' : Tr AV} {h h' : EH}, preE s0 l s h = some (s', h') → Off (l.map (·.1)) s s'
  | [], s, s', h, h', e => by cases e; exact .refl _ _
  | (t, p) :: r, s, s', h, h', e => by
    simp only [preE] at e
    split at e
    · simp only [fAV_eq, fEH_eq, Tr.putK_eq] at e
      have := preE_off e
      exact (Off.put s t _).trans this
    · cases e

theorem cksP_mono {cks : List (Nat × List Nat)} {p : Nat} {h : EH} {k k' : Prop} (m : k → k') : ∀ {ev : Evs}, cksP cks p h ev k → cksP cks p h ev k'
  | [], e => m e
  | (i, o, s, v) :: r, e => by
    simp only [cksP] at e ⊢
    split
    · rename_i q; rw [q] at e; exact ⟨e.1, cksP_mono m e.2⟩
    · rename_i q; rw [q] at e; exact cksP_mono m e
theorem pendP_mono {p : APend} {s : Tr AV} {k k' : Prop} (m : k → k') (e : pendP p s k) : pendP p s k' := by
  cases p with
  | cells c => exact m e
  | map => exact m e
  | _ => exact optP_mono (show optP _ _ from e) fun _ => m
theorem drawC_mono {cks : List (Nat × List Nat)} : ∀ {l : List QStep} {p : Nat} {ev : Evs} {k k' : Tr AV → EH → Prop} (s : Tr AV) (h : EH), (∀ s' h', Off (l.flatMap wrQ) s s' → k s' h' → k' s' h') → drawC P W0 cks p l ev k s h → drawC P W0 cks p l ev k' s h
  | [], p, ev, k, k', s, h, m, e => m _ _ (.refl _ _) e
  | d :: r, p, ev, k, k', s, h, m, e => by
    simp only [drawC] at e ⊢
    obtain ⟨s1, h1, hx, e⟩ := preC_ok e
    refine preC_of hx ?_
    have o1 := preE_off hx
    have hw : (d :: r).flatMap wrQ = wrQ d ++ r.flatMap wrQ := by simp
    cases hd : d.pend with
    | some q =>
      simp only [hd] at e ⊢
      refine pendP_mono (cksP_mono fun e => drawC_mono s1 h1 (fun s' h' o q => m _ _ ?_ q) e) e
      refine (o1.trans o).mono fun i hi => ?_
      rw [hw]
      simp only [wrQ, List.mem_append] at hi ⊢
      rcases hi with hi | hi
      · exact .inl (.inl hi)
      · exact .inr hi
    | none =>
      simp only [hd] at e ⊢
      refine operJ_mono e fun v h' e => cksP_mono (fun e => drawC_mono _ h' (fun s' h' o q => m _ _ ?_ q) e) e
      refine ((o1.trans (Off.putO s1 d.op.dst v)).trans o).mono fun i hi => ?_
      rw [hw]
      simpa [wrQ, or_assoc] using hi
theorem qDsts_wr {l : List QStep} {i : Nat} (h : i ∈ qDsts l) : i ∈ l.flatMap wrQ := by
  simp only [qDsts, List.mem_flatMap] at h ⊢
  obtain ⟨d, hd, hi⟩ := h
  exact ⟨d, hd, by simp only [wrQ, List.mem_append]; exact .inr hi⟩
theorem skipCk_mono {cks : List (Nat × List Nat)} {h : EH} {ev : Evs} {k k' : Prop} (m : k → k') : ∀ {n p : Nat}, skipCk cks h ev k p n → skipCk cks h ev k' p n
  | 0, p, e => m e
  | n + 1, p, e => cksP_mono (fun e => skipCk_mono m e) e
theorem preC_off {s0 : Tr AV} {l : List (Nat × APend)} {s : Tr AV} {h : EH} {k k' : Tr AV → EH → Prop} (e : preC s0 l s h k) (m : ∀ s1 h1, Off (l.map (·.1)) s s1 → k s1 h1 → k' s1 h1) : preC s0 l s h k' := by
  obtain ⟨s1, h1, hx, e⟩ := preC_ok e
  exact preC_of hx (m _ _ (preE_off hx) e)
theorem qUndef_off : ∀ (l : List QStep) (s : Tr AV), Off (qDsts l) s (qUndef l s)
  | [], s => .refl _ _
  | d :: r, s => by
    have h := (Off.putO s d.op.dst (.pl undef)).trans (qUndef_off r (putO s d.op.dst (.pl undef)))
    refine h.mono fun i hi => ?_
    simpa [qDsts] using hi
theorem drawG_mono {cks : List (Nat × List Nat)} : ∀ (n p : Nat) (l : List QStep) (ev : Evs) (k k' : Tr AV → EH → Prop) (s : Tr AV) (h : EH), (∀ s' h', Off (l.flatMap wrQ) s s' → k s' h' → k' s' h') → drawG P W0 cks n p l ev k s h → drawG P W0 cks n p l ev k' s h := by
  intro n
  induction n with
  | zero => intro p l ev k k' s h m e; exact drawC_mono s h m e
  | succ n ih =>
    intro p l ev k k' s h m e
    cases l with
    | nil => exact m _ _ (.refl _ _) e
    | cons d r =>
      have hw : (d :: r).flatMap wrQ = wrQ d ++ r.flatMap wrQ := by simp
      simp only [drawG] at e ⊢
      cases hg : d.op.guard with
      | none =>
        simp only [hg] at e ⊢
        refine preC_off e fun s1 h1 o1 e => ?_
        cases hd : d.pend with
        | some q =>
          simp only [hd] at e ⊢
          refine pendP_mono (cksP_mono fun e => ih _ _ _ _ _ s1 h1 (fun s' h' o q => m _ _ ?_ q) e) e
          refine (o1.trans o).mono fun i hi => ?_
          rw [hw]
          simp only [wrQ, List.mem_append] at hi ⊢
          rcases hi with hi | hi
          · exact .inl (.inl hi)
          · exact .inr hi
        | none =>
          simp only [hd] at e ⊢
          refine opJ_mono e fun v h' e => cksP_mono (fun e => ih _ _ _ _ _ _ h' (fun s' h' o q => m _ _ ?_ q) e) e
          refine ((o1.trans (Off.putO s1 d.op.dst v)).trans o).mono fun i hi => ?_
          rw [hw]
          simpa [wrQ, or_assoc] using hi
      | some x =>
        obtain ⟨t, w⟩ := x
        simp only [hg] at e ⊢
        split
        · rename_i hq
          simp only [hq] at e
          exact drawC_mono s h m e
        · rename_i mm hq
          simp only [hq] at e
          obtain ⟨J, e1, e2⟩ := e
          refine ⟨J, allV_mono e1 fun t' h' o q => ih _ _ _ _ _ t' h' (fun s' h' o2 q => m _ _ ?_ q) q, e2⟩
          refine (o.trans o2).mono fun i hi => ?_
          have e3 : (d :: r).flatMap wrQ = ((d :: r).take (mm + 1)).flatMap wrQ ++ ((d :: r).drop (mm + 1)).flatMap wrQ := by
            rw [← List.flatMap_append, List.take_append_drop]
          rw [e3]
          simp only [List.mem_append] at hi ⊢
          rcases hi with hi | hi
          · exact .inl (qDsts_wr hi)
          · exact .inr hi
/-! A group is what its operations are. -/
theorem gv_of {s s0 : Tr AV} (e : mkS s = mkS s0) : gv s = gv s0 := funext fun o => by rw [gv_eq, gv_eq, e]
theorem mkS_of {s s0 : Tr AV} (e : ∀ i, gv s (.t i) = gv s0 (.t i)) : mkS s = mkS s0 := by
  simp only [mkS, AS.mk.injEq, and_true]
  funext i
  exact e i
theorem subO_of {s s0 : Tr AV} (e : mkS s = mkS s0) : subO s = subO s0 := funext fun o => by rw [subO, subO, gv_of e]
theorem PExp.sub_ext {s s0 : Tr AV} (e : mkS s = mkS s0) (x : PExp) : x.sub s = x.sub s0 := by cases x <;> simp only [PExp.sub, subO_of e]
theorem XExp.sub_ext {s s0 : Tr AV} (e : mkS s = mkS s0) (x : XExp) : x.sub s = x.sub s0 := by cases x <;> simp only [XExp.sub, subO_of e]
theorem EOp.sub_ext {s s0 : Tr AV} (e : mkS s = mkS s0) (x : EOp) : x.sub s = x.sub s0 := by cases x <;> simp only [EOp.sub, subO_of e]
theorem opJ_ext {s s0 : Tr AV} (e : mkS s = mkS s0) {o : AOp} {h : EH} {k : AV → EH → Prop} : opJ P W0 o s h k = opJ P W0 o s0 h k := by
  cases o with
  | pu x => cases x <;> simp only [opJ, PExp.sub_ext e, gv_of e]
  | px x => simp only [opJ, XExp.sub_ext e]
  | ef x => cases x <;> simp only [opJ, EOp.sub_ext e, gv_of e]
theorem operJ_ext {s s0 : Tr AV} (e : mkS s = mkS s0) {o : AOper} {h : EH} {k : AV → EH → Prop} : operJ P W0 o s h k = operJ P W0 o s0 h k := by
  simp only [operJ, opJ_ext e, gv_of e]
theorem operCk_ext {s s0 : Tr AV} (e : mkS s = mkS s0) {o : AOper} {h : EH} {v : AV} : operCk o s h v = operCk o s0 h v := by
  have : opCk o.op s h v = opCk o.op s0 h v := by
    cases o.op <;> simp only [opCk, PExp.sub_ext e, XExp.sub_ext e]
  simp only [operCk, this, gv_of e]
noncomputable def fE (x : Nat × AOper × Tr AV × AV) : Nat × AOper × AS × AV := (x.1, x.2.1, mkS x.2.2.1, x.2.2.2)
theorem cksP_ext {cks : List (Nat × List Nat)} {p : Nat} {h : EH} {k : Prop} : ∀ {ev ev0 : Evs}, ev.map fE = ev0.map fE → cksP cks p h ev k → cksP cks p h ev0 k
  | [], [], _, e => e
  | [], _ :: _, q, e => by simp at q
  | _ :: _, [], q, e => by simp at q
  | (i, o, s, v) :: r, (i0, o0, s0, v0) :: r0, q, e => by
    simp only [List.map_cons, List.cons.injEq, fE, Prod.mk.injEq] at q
    obtain ⟨⟨rfl, rfl, hs, rfl⟩, q⟩ := q
    simp only [cksP] at e ⊢
    split
    · rename_i z
      rw [z] at e
      exact ⟨by rw [← operCk_ext hs]; exact e.1, cksP_ext q e.2⟩
    · rename_i z
      rw [z] at e
      exact cksP_ext q e
theorem putO_ext {s s0 : Tr AV} (e : mkS s = mkS s0) (d : Option Nat) (v : AV) : mkS (putO s d v) = mkS (putO s0 d v) := by
  rw [mkS_putO, mkS_putO, e]
/-- It holds of a state that is the same. -/
def kx (k : Tr AV → EH → Prop) : Tr AV → EH → Prop := fun s h => ∃ s1, mkS s1 = mkS s ∧ k s1 h
theorem put_ext {s s0 : Tr AV} (e : mkS s = mkS s0) (t : Nat) (v : AV) : mkS (s.put t v) = mkS (s0.put t v) := putO_ext e (some t) v
theorem preC_ext {u u0 : Tr AV} (eu : mkS u = mkS u0) : ∀ {l : List (Nat × APend)} {s s0 : Tr AV} {h : EH} {k k0 : Tr AV → EH → Prop}, mkS s = mkS s0 → (∀ s1 s01 h1, mkS s1 = mkS s01 → k s1 h1 → k0 s01 h1) → preC u l s h k → preC u0 l s0 h k0
  | [], s, s0, h, k, k0, e, m, q => m _ _ _ e q
  | (t, p) :: r, s, s0, h, k, k0, e, m, q => by
    simp only [preC] at q ⊢
    rw [← eu]
    exact optP_mono q fun o q => preC_ext eu (put_ext e _ _) m q
theorem pendP_ext {p : APend} {s s0 : Tr AV} {k : Prop} (e : mkS s = mkS s0) (q : pendP p s k) : pendP p s0 k := by
  cases p <;> simp only [pendP] at q ⊢ <;> first | exact q | (rw [← e]; exact q)
theorem drawC_ext {cks : List (Nat × List Nat)} : ∀ {l : List QStep} {p : Nat} {ev ev0 : Evs} {k : Tr AV → EH → Prop} {s s0 : Tr AV} {h : EH}, mkS s = mkS s0 → ev.map fE = ev0.map fE → drawC P W0 cks p l ev k s h → drawC P W0 cks p l ev0 (kx k) s0 h
  | [], p, ev, ev0, k, s, s0, h, e, q, z => ⟨s, e, z⟩
  | d :: r, p, ev, ev0, k, s, s0, h, e, q, z => by
    simp only [drawC] at z ⊢
    refine preC_ext e e (fun s1 s01 h1 e1 z => ?_) z
    cases hd : d.pend with
    | some p' =>
      simp only [hd] at z ⊢
      exact pendP_ext e1 (pendP_mono (fun z => cksP_ext q (cksP_mono (fun z => drawC_ext e1 q z) z)) z)
    | none =>
      simp only [hd] at z ⊢
      rw [← operJ_ext e1]
      refine operJ_mono z fun v h' z => cksP_ext q (cksP_mono (fun z => drawC_ext (putO_ext e1 _ _) ?_ z) z)
      split
      · simp only [List.map_cons, fE, e1]; rw [show ev.map fE = ev0.map fE from q]
      · exact q
/-- What a group is. -/
def GOk (t : Nat) (w : Bool) : List Nat → List QStep → Prop
  | _, [] => True
  | U, d :: r => d.pre = [] ∧ d.pend = none ∧ (∃ t' w', d.op.guard = some (t', w') ∧ ((t' = t ∧ w' = w) ∨ t' ∈ U)) ∧ d.op.dst ≠ some t ∧ GOk t w (d.op.dst.toList ++ U) r
theorem qLen0_ok {t : Nat} {w : Bool} : ∀ (l : List QStep) (U : List Nat), GOk t w U (l.take (qLen0 t w U l)) ∧ qLen0 t w U l ≤ l.length
  | [], U => ⟨trivial, Nat.le_refl _⟩
  | d :: r, U => by
    simp only [qLen0]
    split
    · rename_i t' w' h1 h2 h3
      split
      · rename_i hc
        simp only [Bool.and_eq_true, Bool.or_eq_true, Nat.beq_eq, beq_iff_eq, memB_iff] at hc
        obtain ⟨hc1, hc3⟩ := hc
        obtain ⟨a, b⟩ := qLen0_ok (t := t) (w := w) r (d.op.dst.toList ++ U)
        refine ⟨?_, by simp only [List.length_cons]; omega⟩
        rw [List.take_succ_cons]
        exact ⟨h1, h2, ⟨t', w', h3, hc1⟩, dstNe_ok hc3, a⟩
      · exact ⟨trivial, Nat.zero_le _⟩
    · exact ⟨trivial, Nat.zero_le _⟩
theorem GOk.take {t : Nat} {w : Bool} : ∀ {l : List QStep} {U : List Nat} (n : Nat), GOk t w U l → GOk t w U (l.take n)
  | _, _, 0, _ => trivial
  | [], _, _ + 1, _ => trivial
  | _ :: _, _, n + 1, h => ⟨h.1, h.2.1, h.2.2.1, h.2.2.2.1, GOk.take n h.2.2.2.2⟩
theorem qShr_ok {cks : List (Nat × List Nat)} {p : Nat} : ∀ m : Nat, qShr cks p m ≤ m ∧ (qShr cks p m ≠ 0 → qClosed cks p (qShr cks p m) = true)
  | 0 => ⟨Nat.le_refl _, fun h => (h rfl).elim⟩
  | m + 1 => by
    simp only [qShr]
    split
    · rename_i q; exact ⟨Nat.le_refl _, fun _ => q⟩
    · obtain ⟨a, b⟩ := qShr_ok (cks := cks) (p := p) m
      exact ⟨by omega, b⟩
theorem qLen_ok {t : Nat} {w : Bool} {cks : List (Nat × List Nat)} (l : List QStep) (p : Nat) : GOk t w [] (l.take (qLen t w cks p l)) ∧ qLen t w cks p l ≤ l.length ∧ (qLen t w cks p l ≠ 0 → qClosed cks p (qLen t w cks p l) = true) := by
  obtain ⟨a, b⟩ := qLen0_ok (t := t) (w := w) l []
  obtain ⟨c, d⟩ := qShr_ok (cks := cks) (p := p) (qLen0 t w [] l)
  refine ⟨?_, Nat.le_trans c b, d⟩
  have := GOk.take (qLen t w cks p l) a
  rwa [List.take_take, show min (qLen t w cks p l) (qLen0 t w [] l) = qLen t w cks p l from Nat.min_eq_left c] at this
/-- What asks for the first behind a place asks for the second. -/
def EvSub (cks : List (Nat × List Nat)) (p : Nat) (ev ev' : Evs) : Prop := ∀ q, p < q → ∀ (h : EH) (k : Prop), cksP cks q h ev k → cksP cks q h ev' k
theorem EvSub.refl {cks : List (Nat × List Nat)} {p : Nat} (ev : Evs) : EvSub cks p ev ev := fun _ _ _ _ e => e
theorem EvSub.up {cks : List (Nat × List Nat)} {p p' : Nat} {ev ev' : Evs} (h : EvSub cks p ev ev') (l : p ≤ p') : EvSub cks p' ev ev' := fun q hq => h q (by omega)
theorem EvSub.cons {cks : List (Nat × List Nat)} {p : Nat} {ev ev' : Evs} (h : EvSub cks p ev ev') {i : Nat} {o o' : AOper} {s s' : Tr AV} {v : AV} (m : ∀ h, operCk o s h v → operCk o' s' h v) : EvSub cks p ((i, o, s, v) :: ev) ((i, o', s', v) :: ev') := fun q hq h0 k e => by
  simp only [cksP] at e ⊢
  cases hc : hasCk cks i q with
  | true => rw [hc] at e; exact ⟨m _ e.1, h q hq h0 k e.2⟩
  | false => rw [hc] at e; exact h q hq h0 k e
theorem EvSub.left {cks : List (Nat × List Nat)} {p : Nat} {ev ev' : Evs} (h : EvSub cks p ev ev') {i : Nat} {o' : AOper} {s' : Tr AV} {v : AV} (m : ∀ q, p < q → hasCk cks i q = true → ∀ h, operCk o' s' h v) : EvSub cks p ev ((i, o', s', v) :: ev') := fun q hq h0 k e => by
  simp only [cksP]
  cases hc : hasCk cks i q with
  | true => exact ⟨m q hq hc _, h q hq h0 k e⟩
  | false => exact h q hq h0 k e
theorem drawC_sub {cks : List (Nat × List Nat)} : ∀ {l : List QStep} {p : Nat} {ev ev' : Evs} {k : Tr AV → EH → Prop} {s : Tr AV} {h : EH}, EvSub cks p ev ev' → drawC P W0 cks p l ev k s h → drawC P W0 cks p l ev' k s h
  | [], p, ev, ev', k, s, h, m, e => e
  | d :: r, p, ev, ev', k, s, h, m, e => by
    simp only [drawC] at e ⊢
    obtain ⟨s1, h1, hx, e⟩ := preC_ok e
    refine preC_of hx ?_
    cases hd : d.pend with
    | some q =>
      simp only [hd] at e ⊢
      exact pendP_mono (fun e => m _ (by omega) _ _ (cksP_mono (fun e => drawC_sub (m.up (by omega)) e) e)) e
    | none =>
      simp only [hd] at e ⊢
      refine operJ_mono e fun v h' e => m _ (by omega) _ _ (cksP_mono (fun e => drawC_sub ?_ e) e)
      split
      · exact (m.up (by omega)).cons fun _ e => e
      · exact m.up (by omega)
theorem gd_on {t : Nat} {w : Bool} {U : List Nat} {d : QStep} {s : Tr AV} {t' : Nat} {w' : Bool} (h3 : d.op.guard = some (t', w')) (ht : gv s (.t t) = .bool w) : (∀ (h : EH) (k1 k2 : AV → EH → Prop), (∀ v h', k1 v h' → k2 v h') → operJ P W0 (unG t w d).op s h k1 → operJ P W0 d.op s h k2) ∧ ∀ h v, operCk (unG t w d).op s h v → operCk d.op s h v := by
  obtain ⟨pre, pend, dst, gd, op⟩ := d
  simp only at h3
  subst h3
  by_cases z : t' = t ∧ w' = w
  · obtain ⟨rfl, rfl⟩ := z
    refine ⟨fun h k1 k2 m e => ?_, fun h v e => ?_⟩
    · simp only [unG, Nat.beq_refl, beq_self_eq_true, Bool.and_self, if_true, operJ] at e
      simp only [operJ, ht, condG, if_true]
      exact opJ_mono e m
    · simp only [unG, Nat.beq_refl, beq_self_eq_true, Bool.and_self, if_true, operCk] at e
      simp only [operCk, ht, condG, if_true]
      exact e
  · have : (Nat.beq t' t && (w' == w)) = false := by
      rw [Bool.eq_false_iff]
      intro q
      simp only [Bool.and_eq_true, Nat.beq_eq, beq_iff_eq] at q
      exact z q
    refine ⟨fun h k1 k2 m e => ?_, fun h v e => ?_⟩
    · simp only [unG, this, Bool.false_eq_true, if_false, operJ] at e
      simp only [operJ]
      exact condG_mono e (fun e => opJ_mono e m) (m _ _)
    · simp only [unG, this, Bool.false_eq_true, if_false, operCk] at e
      simp only [operCk]
      exact e
theorem guard_on {t : Nat} {w : Bool} {cks : List (Nat × List Nat)} {k : Tr AV → EH → Prop} : ∀ (g : List QStep) (p : Nat) (U : List Nat) (ev ev' : Evs) (s : Tr AV) (h : EH), GOk t w U g → EvSub cks p ev ev' → gv s (.t t) = .bool w → drawC P W0 cks p (g.map (unG t w)) ev k s h → drawC P W0 cks p g ev' k s h
  | [], p, U, ev, ev', s, h, _, _, _, e => e
  | d :: r, p, U, ev, ev', s, h, hg, m, ht, e => by
    obtain ⟨h1, h2, ⟨t', w', h3, h4⟩, h6, h7⟩ := hg
    have hu1 : (unG t w d).pre = [] := h1
    have hu2 : (unG t w d).pend = none := h2
    have hu3 : (unG t w d).op.dst = d.op.dst := rfl
    simp only [List.map_cons, drawC, hu1, hu2, h1, h2, preC] at e ⊢
    obtain ⟨hop, hck⟩ := gd_on (P := P) (W0 := W0) (U := U) h3 ht
    refine hop h _ _ (fun v h' e => m _ (by omega) _ _ (cksP_mono (fun e => ?_) e)) e
    rw [hu3] at e
    refine guard_on r (p + 1) _ _ _ _ h' h7 ?_ ?_ e
    · split
      · exact (m.up (by omega)).cons fun _ e => hck _ _ e
      · exact m.up (by omega)
    · cases hd : d.op.dst with
      | none => exact ht
      | some x =>
        have : ¬ t = x := fun e => h6 (by rw [hd, e])
        simp only [putO, gv_put, if_neg this]
        exact ht
theorem guard_off {t : Nat} {w : Bool} {cks : List (Nat × List Nat)} {k : Tr AV → EH → Prop} : ∀ (g : List QStep) (p : Nat) (U : List Nat) (ev ev' : Evs) (s : Tr AV) (h : EH), GOk t w U g → EvSub cks p ev ev' → ((∃ b, gv s (.t t) = .bool b ∧ b ≠ w) ∨ ∃ vs, gv s (.t t) = .pl (.tuple vs)) → (∀ u ∈ U, gv s (.t u) = .pl undef) →
    skipCk cks h ev (k (qUndef g s) h) p g.length → drawC P W0 cks p g ev' k s h
  | [], p, U, ev, ev', s, h, _, _, _, _, e => e
  | d :: r, p, U, ev, ev', s, h, hg, m, ht, hu, e => by
    obtain ⟨h1, h2, ⟨t', w', h3, h4⟩, h6, h7⟩ := hg
    simp only [drawC, h1, h2, preC]
    have hc : ∀ h0, operCk d.op s h0 (.pl undef) := by
      intro h0
      simp only [operCk, h3]
      rcases h4 with ⟨rfl, rfl⟩ | h4
      · rcases ht with ⟨b, hb, hw⟩ | ⟨vs, hb⟩
        · rw [hb]; simp only [condG, if_neg hw]
        · rw [hb]; exact trivial
      · rw [hu _ h4]; exact trivial
    have fin : cksP cks (p + 1) h ev' (drawC P W0 cks (p + 1) r (match keyCk cks p with | true => (p, d.op, s, AV.pl undef) :: ev' | false => ev') k (putO s d.op.dst (.pl undef)) h) := by
      refine m _ (by omega) _ _ (cksP_mono (fun e => ?_) (show cksP cks (p + 1) h ev (skipCk cks h ev _ (p + 1) r.length) from e))
      refine guard_off r (p + 1) _ _ _ _ h h7 ?_ ?_ (fun u hu' => ?_) e
      · split
        · exact (m.up (by omega)).left fun _ _ _ => hc
        · exact m.up (by omega)
      · cases hd : d.op.dst with
        | none => exact ht
        | some x =>
          have : ¬ t = x := fun e => h6 (by rw [hd, e])
          simp only [putO, gv_put, if_neg this]
          exact ht
      · cases hd : d.op.dst with
        | none => rw [hd] at hu'; exact hu u (by simpa using hu')
        | some x =>
          rw [hd] at hu'
          simp only [putO, gv_put]
          by_cases q : u = x
          · rw [if_pos q]
          · rw [if_neg q]; exact hu u (by simpa [q] using hu')
    simp only [operJ, h3]
    rcases h4 with ⟨rfl, rfl⟩ | h4
    · rcases ht with ⟨b, hb, hw⟩ | ⟨vs, hb⟩
      · rw [hb]; simp only [condG, if_neg hw]; exact fin
      · rw [hb]; exact fin
    · rw [hu _ h4]; exact fin
theorem drawC_append {t : Nat} {w : Bool} {cks : List (Nat × List Nat)} {k : Tr AV → EH → Prop} {rest : List QStep} {ev0 : Evs} {m : Nat} : ∀ (g : List QStep) (p : Nat) (U : List Nat) (ev : Evs) (s : Tr AV) (h : EH), GOk t w U g → p + g.length = m → (∀ i, p ≤ i → i < m → ∀ q, m < q → hasCk cks i q = false) → EvSub cks m ev0 ev → drawC P W0 cks p g ev (drawC P W0 cks m rest ev0 k) s h → drawC P W0 cks p (g ++ rest) ev k s h
  | [], p, U, ev, s, h, _, hm, hc, he, e => by
    have : p = m := by simpa using hm
    subst this
    exact drawC_sub he e
  | d :: r, p, U, ev, s, h, hg, hm, hc, he, e => by
    obtain ⟨h1, h2, ⟨t', w', h3, h4⟩, h6, h7⟩ := hg
    simp only [List.length_cons] at hm
    simp only [List.cons_append, drawC, h1, h2, preC] at e ⊢
    refine operJ_mono e fun v h' e => cksP_mono (fun e => drawC_append r (p + 1) _ _ _ h' h7 (by omega) (fun i a b => hc i (by omega) b) ?_ e) e
    split
    · exact he.left fun q hq hk => by rw [hc p (Nat.le_refl _) (by omega) q hq] at hk; cases hk
    · exact he
theorem qClosed_ok {cks : List (Nat × List Nat)} {p m : Nat} (h : qClosed cks p m = true) : ∀ i, p ≤ i → i < p + m → ∀ q, p + m < q → hasCk cks i q = false := by
  intro i h1 h2 q h3
  rw [Bool.eq_false_iff]
  intro hk
  simp only [hasCk, List.any_eq_true, Bool.and_eq_true, Nat.beq_eq, memB_iff] at hk
  obtain ⟨c, hc, rfl, hq⟩ := hk
  simp only [qClosed, List.all_eq_true] at h
  have := h c hc
  simp only [Bool.or_eq_true, Bool.not_eq_true', Bool.and_eq_false_iff, List.all_eq_true] at this
  rcases this with (a | a) | a
  · rw [Nat.ble_eq_true_of_le h1] at a; cases a
  · have : ¬ c.1 < p + m := fun z => by rw [blt_iff.2 z] at a; cases a
    omega
  · have := Nat.le_of_ble_eq_true (a q hq)
    omega
theorem appJ_ext : ∀ {K : List Nat} {J : Pd K} {s s0 : Tr AV} {h : EH}, mkS s = mkS s0 → appJ K J s h → appJ K J s0 h
  | [], J, s, s0, h, e, q => q
  | i :: r, J, s, s0, h, e, q => by
    simp only [appJ] at q ⊢
    rw [← gv_of e]
    exact appJ_ext (K := r) e q
theorem drawG_ok {cks : List (Nat × List Nat)} : ∀ (n p : Nat) (l : List QStep) (ev : Evs) (k : Tr AV → EH → Prop) (s : Tr AV) (h : EH), drawG P W0 cks n p l ev k s h → drawC P W0 cks p l ev (kx k) s h := by
  intro n
  induction n with
  | zero => intro p l ev k s h e; exact drawC_mono s h (fun s' h' _ q => ⟨s', rfl, q⟩) e
  | succ n ih =>
    intro p l ev k s h e
    cases l with
    | nil => exact ⟨s, rfl, e⟩
    | cons d r =>
      simp only [drawG] at e
      cases hg : d.op.guard with
      | none =>
        simp only [hg] at e
        simp only [drawC]
        refine preC_off e fun s1 h1 _ e => ?_
        cases hd : d.pend with
        | some q =>
          simp only [hd] at e ⊢
          exact pendP_mono (cksP_mono fun e => ih _ _ _ _ s1 h1 e) e
        | none =>
          simp only [hd] at e ⊢
          simp only [operJ, hg]
          exact opJ_mono e fun v h' e => cksP_mono (fun e => ih _ _ _ _ _ h' e) e
      | some x =>
        obtain ⟨t, w⟩ := x
        simp only [hg] at e
        split at e
        · exact drawC_mono s h (fun s' h' _ q => ⟨s', rfl, q⟩) e
        · rename_i mm hq
          obtain ⟨J, e1, e2⟩ := e
          obtain ⟨gok, gle, gcl⟩ := qLen_ok (t := t) (w := w) (cks := cks) (d :: r) p
          rw [hq] at gok gle gcl
          have hl : ((d :: r).take (mm + 1)).length = mm + 1 := by rw [List.length_take]; omega
          have after : ∀ s' h', Off (qDsts ((d :: r).take (mm + 1))) s s' → appJ (qDsts ((d :: r).take (mm + 1))) J s' h' → drawC P W0 cks (p + (mm + 1)) ((d :: r).drop (mm + 1)) ev (kx k) s' h' := by
            intro s' h' o q
            have h1 := ih _ _ _ _ _ _ (allV_app e1 q)
            have em : mkS (copyK (qDsts ((d :: r).take (mm + 1))) s' s) = mkS s' := mkS_of fun i => by
              rw [gv_copyK]
              by_cases z : i ∈ qDsts ((d :: r).take (mm + 1))
              · rw [if_pos z]
              · rw [if_neg z, o i z]
            refine drawC_mono s' h' (fun s2 h2 _ q => ?_) (drawC_ext em rfl h1)
            obtain ⟨u, a, v, b, c⟩ := q
            exact ⟨v, b.trans a, c⟩
          have key : drawC P W0 cks p ((d :: r).take (mm + 1)) ev (drawC P W0 cks (p + (mm + 1)) ((d :: r).drop (mm + 1)) ev (kx k)) s h := by
            unfold condG at e2
            have off : ((∃ b, gv s (.t t) = .bool b ∧ b ≠ w) ∨ ∃ vs, gv s (.t t) = .pl (.tuple vs)) → skipCk cks h ev (appJ (qDsts ((d :: r).take (mm + 1))) J (qUndef ((d :: r).take (mm + 1)) s) h) p (mm + 1) → drawC P W0 cks p ((d :: r).take (mm + 1)) ev (drawC P W0 cks (p + (mm + 1)) ((d :: r).drop (mm + 1)) ev (kx k)) s h := fun ht e => by
              refine guard_off _ p [] ev ev s h gok (.refl _) ht (fun u hu => by simp at hu) ?_
              rw [hl]
              exact skipCk_mono (after _ _ (qUndef_off _ _)) e
            split at e2
            · rename_i b hb
              split at e2
              · rename_i hbw
                subst hbw
                refine guard_on _ p [] ev ev s h gok (.refl _) hb ?_
                refine drawC_mono s h (fun s' h' o q => ?_) (ih _ _ _ _ _ _ e2)
                obtain ⟨s1, es, q⟩ := q
                refine after s' h' (o.mono fun i hi => ?_) (appJ_ext es q)
                -- the writes of a group are its results
                have hpre : ∀ (g : List QStep) (U : List Nat), GOk t b U g → ∀ i ∈ (g.map (unG t b)).flatMap wrQ, i ∈ qDsts g := by
                  intro g
                  induction g with
                  | nil => intro U _ i hi; simp at hi
                  | cons d' r' ihg =>
                    intro U hg i hi
                    obtain ⟨h1, h2, _, _, h7⟩ := hg
                    simp only [List.map_cons, List.flatMap_cons, wrQ, unG, h1, List.map_nil, List.nil_append, List.mem_append] at hi
                    simp only [qDsts, List.flatMap_cons, List.mem_append]
                    rcases hi with hi | hi
                    · exact .inl hi
                    · exact .inr (ihg _ h7 i hi)
                exact hpre _ [] gok i hi
              · rename_i hbw; exact off (.inl ⟨b, hb, hbw⟩) e2
            · rename_i vs hb; exact off (.inr ⟨vs, hb⟩) e2
            · exact e2.elim
          have := drawC_append (rest := (d :: r).drop (mm + 1)) (ev0 := ev) (m := p + (mm + 1)) _ p [] ev s h gok (by rw [hl]) (qClosed_ok (gcl (by omega))) (.refl _) key
          rwa [List.take_append_drop] at this
theorem sj_mono : ∀ (c : JCode) {Q Q' : SQ}, (∀ x s h, Q x s h → Q' x s h) → ∀ s h, sj P W0 c Q s h → sj P W0 c Q' s h
  | .skip, Q, Q', m, s, h, e => by simp only [sj] at e ⊢; exact m _ _ _ e
  | .op d o, Q, Q', m, s, h, e => by simp only [sj] at e ⊢; exact opJ_mono e fun v h' q => m _ _ _ q
  | .grp t w c, Q, Q', m, s, h, e => by simp only [sj] at e ⊢; exact condG_mono e (sj_mono c m s h) (m _ _ _)
  | .ops c, Q, Q', m, s, h, e => by simp only [sj] at e ⊢; exact sj_mono c m s h e
  | .draw l after pn pubs, Q, Q', m, s, h, e => by simp only [sj] at e ⊢; exact drawG_mono _ _ _ _ _ _ s h (fun s' h' _ q => m _ _ _ q) e
  | .seq none a b, Q, Q', m, s, h, e => by simp only [sj] at e ⊢; exact sj_mono a (nextQ_mono (sj_mono b m) m) s h e
  | .seq (some K) a b, Q, Q', m, s, h, e => by
    simp only [sj] at e ⊢
    obtain ⟨J, e1, e2⟩ := e
    exact ⟨J, allV_mono e1 fun t h _ q => sj_mono b m t h q, sj_mono a (nextQ_mono (fun _ _ q => q) m) s h e2⟩
  | .cond c x y, Q, Q', m, s, h, e => by simp only [sj] at e ⊢; exact condS_mono e (sj_mono x m s h) (sj_mono y m s h)
  | .block id c, Q, Q', m, s, h, e => by simp only [sj] at e ⊢; exact sj_mono c (blockQ_mono m) s h e
  | .loop K c, Q, Q', m, s, h, e => by
    simp only [sj] at e ⊢
    obtain ⟨J, n, e1, e2⟩ := e
    exact ⟨J, n, e1, fun n => allV_mono (e2 n) fun t h _ q => sj_mono c (nextQ_mono (fun _ _ q => q) m) t h q⟩
  | .exit id, Q, Q', m, s, h, e => by simp only [sj] at e ⊢; exact m _ _ _ e
  | .ret, Q, Q', m, s, h, e => by simp only [sj] at e ⊢; exact m _ _ _ e
  | .rangef N f ps asg body, Q, Q', m, s, h, e => by
    simp only [sj] at e ⊢
    split at e
    · exact ⟨e.1, e.2.mono fun r h' q => outJ_mono (fun x h => m x s h) q⟩
    · exact e.elim
  | .no, Q, Q', m, s, h, e => by simp only [sj] at e
/-- What a piece of code leaves as it was. -/
theorem sj_off : ∀ (c : JCode) {Q : SQ} (s : Tr AV) (h : EH), sj P W0 c Q s h → sj P W0 c (fun x s' h' => Q x s' h' ∧ Off (writes c) s s') s h
  | .skip, Q, s, h, e => by simp only [sj] at e ⊢; exact ⟨e, .refl _ _⟩
  | .op d o, Q, s, h, e => by simp only [sj] at e ⊢; exact opJ_mono e fun v h' q => ⟨q, .putO _ _ _⟩
  | .grp t w c, Q, s, h, e => by
    simp only [sj] at e ⊢
    exact condG_mono e (sj_off c s h) fun q => ⟨q, (undefs_off _ _).mono (dsts_jflat c)⟩
  | .ops c, Q, s, h, e => by simp only [sj] at e ⊢; exact sj_off c s h e
  | .draw l after pn pubs, Q, s, h, e => by simp only [sj] at e ⊢; exact drawG_mono _ _ _ _ _ _ s h (fun s' h' o q => ⟨q, o⟩) e
  | .seq none a b, Q, s, h, e => by
    simp only [sj] at e ⊢
    refine sj_mono a (fun x s' h' q => ?_) s h (sj_off a s h e)
    obtain ⟨q, o⟩ := q
    cases x with
    | normal => exact sj_mono b (fun x s2 h2 q2 => ⟨q2.1, (o.trans q2.2).mono fun i hi => by simpa [writes] using hi⟩) _ _ (sj_off b _ _ q)
    | exit i => exact ⟨q, o.mono fun i hi => by simp [writes, hi]⟩
    | ret => exact ⟨q, o.mono fun i hi => by simp [writes, hi]⟩
  | .seq (some K) a b, Q, s, h, e => by
    simp only [sj] at e ⊢
    obtain ⟨J, e1, e2⟩ := e
    refine ⟨J, allV_mono e1 fun t h o q => ?_, ?_⟩
    · exact sj_mono b (fun x s2 h2 q2 => ⟨q2.1, (((Off.any (writes a) s).trans o).trans q2.2).mono fun i hi => by simpa [writes, or_assoc] using hi⟩) _ _ (sj_off b _ _ q)
    · refine sj_mono a (fun x s' h' q => ?_) s h (sj_off a s h e2)
      obtain ⟨q, o⟩ := q
      cases x with
      | normal => exact q
      | exit i => exact ⟨q, o.mono fun i hi => by simp [writes, hi]⟩
      | ret => exact ⟨q, o.mono fun i hi => by simp [writes, hi]⟩
  | .cond c x y, Q, s, h, e => by
    simp only [sj] at e ⊢
    refine condS_mono e (fun e => ?_) (fun e => ?_)
    · exact sj_mono x (fun _ _ _ q => ⟨q.1, q.2.mono fun i hi => by simp [writes, hi]⟩) s h (sj_off x s h e)
    · exact sj_mono y (fun _ _ _ q => ⟨q.1, q.2.mono fun i hi => by simp [writes, hi]⟩) s h (sj_off y s h e)
  | .block id c, Q, s, h, e => by
    simp only [sj] at e ⊢
    refine sj_mono c (fun x s' h' q => ?_) s h (sj_off c s h e)
    obtain ⟨q, o⟩ := q
    cases x with
    | normal => exact ⟨q, o⟩
    | exit i =>
      simp only [blockQ] at q ⊢
      split
      · rename_i z; rw [if_pos z] at q; exact ⟨q, o⟩
      · rename_i z; rw [if_neg z] at q; exact ⟨q, o⟩
    | ret => exact ⟨q, o⟩
  | .loop K c, Q, s, h, e => by
    simp only [sj] at e ⊢
    obtain ⟨J, n, e1, e2⟩ := e
    refine ⟨J, n, e1, fun n => allV_mono (e2 n) fun t h o q => ?_⟩
    refine sj_mono c (fun x s' h' q => ?_) t h (sj_off c t h q)
    obtain ⟨q, o2⟩ := q
    have o3 : Off (writes (.loop K c)) s s' := (((Off.any (writes c) s).trans o).trans o2).mono fun i hi => by
      simp only [List.mem_append] at hi
      simp only [writes, List.mem_append]
      rcases hi with (hi | hi) | hi
      · exact .inl hi
      · exact .inr hi
      · exact .inl hi
    cases x with
    | normal => exact q
    | exit i => exact ⟨q, o3⟩
    | ret => exact ⟨q, o3⟩
  | .exit id, Q, s, h, e => by simp only [sj] at e ⊢; exact ⟨e, .refl _ _⟩
  | .ret, Q, s, h, e => by simp only [sj] at e ⊢; exact ⟨e, .refl _ _⟩
  | .rangef N f ps asg body, Q, s, h, e => by
    simp only [sj] at e ⊢
    split at e
    · exact ⟨e.1, e.2.mono fun r h' q => outJ_mono (fun x h q => ⟨q, .refl _ _⟩) q⟩
    · exact e.elim
  | .no, Q, s, h, e => by simp only [sj] at e
end
end Go.Qa
/- The abstract machine: what annotated code asks for is enough. -/
namespace Go.Qa
open Go Go.RowKit

theorem AS.le.trans {a b c : AS} (h : AS.le a b) (k : AS.le b c) : AS.le a c :=
  ⟨fun i => by rcases h.1 i with q | q
               · rcases k.1 i with r | r
                 · exact .inl (q.trans r)
                 · exact .inr (q.trans r)
               · exact .inr q, h.2.1.trans k.2.1, h.2.2.trans k.2.2⟩
section
variable {P : Program} {W0 : World}
theorem awpOpsG_le {K : AS → AHeap → Prop} {st st' : AS} {H : AHeap} (hl : AS.le st' st) : ∀ {l : List AOper}, awpOpsG P W0 l K st' H → awpOpsG P W0 l K st H
  | [], ⟨u, h, k⟩ => ⟨u, h.trans hl, k⟩
  | o :: r, ⟨u, h, k⟩ => ⟨u, h.trans hl, k⟩
theorem writes0_eq : ∀ (c : JCode), opsy c = true → writes0 c = writes c
  | .skip, _ => rfl
  | .op d o, _ => rfl
  | .grp t w c, h => by
    simp only [opsy, Bool.and_eq_true] at h
    simp only [writes0, writes]
    exact writes0_eq c h.1.1
  | .seq K a b, h => by
    simp only [opsy, Bool.and_eq_true] at h
    simp only [writes0, writes, writes0_eq a h.1, writes0_eq b h.2]
theorem gw_gw (g : Option (Nat × Bool)) (x : Nat × Bool) (l : List AOper) : (l.map (gw (some x))).map (gw g) = l.map (gw (some x)) := by
  rw [List.map_map]
  refine List.map_congr_left fun o _ => ?_
  obtain ⟨d, gg, op⟩ := o
  cases gg <;> rfl
theorem skip_ok {t : Nat} {w : Bool} {rest : List AOper} {K : AS → AHeap → Prop} {H : AHeap} : ∀ (l : List AOper) (U : List Nat) (s : Tr AV), skips t U l = true →
    ((∃ b, gv s (.t t) = .bool b ∧ b ≠ w) ∨ ∃ vs, gv s (.t t) = .pl (.tuple vs)) → (∀ u ∈ U, gv s (.t u) = .pl undef) → awpOpsG P W0 rest K (mkS (undefs l s)) H → awpOpsG P W0 (l.map (gw (some (t, w))) ++ rest) K (mkS s) H
  | [], U, s, hs, ht, hu, k => k
  | o :: r, U, s, hs, ht, hu, k => by
    obtain ⟨d, g, op⟩ := o
    simp only [skips, Bool.and_eq_true] at hs
    obtain ⟨h1, h2⟩ := hs
    have key : awpOpsG P W0 (r.map (gw (some (t, w))) ++ rest) K (mkS (putO s d (.pl undef))) H := by
      cases d with
      | none => exact skip_ok r U _ h2 ht hu k
      | some d =>
        simp only [Bool.and_eq_true, Bool.not_eq_true'] at h2
        have hne : ¬ t = d := fun e => by subst e; simp at h2
        refine skip_ok r (d :: U) _ h2.2 ?_ (fun u hu' => ?_) k
        · simp only [putO, gv_put, if_neg hne]; exact ht
        · simp only [putO, gv_put]
          by_cases e : u = d
          · rw [if_pos e]
          · rw [if_neg e]; exact hu u (by simpa [e] using hu')
    refine ⟨mkS s, .refl _, ?_⟩
    rw [mkS_putO] at key
    have hund : ∃ vs, undef = Value.tuple vs := ⟨_, rfl⟩
    cases g with
    | none =>
      simp only [gw, AOper.wp]
      rcases ht with ⟨b, hb, hw⟩ | ⟨vs, hb⟩
      · have : (mkS s).s t = .bool b := by rw [← hb, gv_eq]; rfl
        rw [this]
        simp only
        rw [if_neg hw]; exact key
      · have : (mkS s).s t = .pl (.tuple vs) := by rw [← hb, gv_eq]; rfl
        rw [this]; exact key
    | some x =>
      obtain ⟨t', w'⟩ := x
      simp only [gw, AOper.wp]
      have := hu t' (memB_iff.1 h1)
      have e : (mkS s).s t' = .pl undef := by rw [← this, gv_eq]; rfl
      obtain ⟨vs, hv⟩ := hund
      rw [e, hv]; rw [hv] at key; exact key
theorem copyK_le {K W : List Nat} {s s' : Tr AV} (o : Off W s s') : AS.le (mkS (copyK K s' (anyT W s))) (mkS s') := by
  refine ⟨fun i => ?_, rfl, rfl⟩
  have e : ∀ u : Tr AV, (mkS u).s i = gv u (.t i) := fun u => (gv_eq u (.t i)).symm
  rw [e, e, gv_copyK, gv_anyT]
  by_cases q : i ∈ K
  · rw [if_pos q]; exact .inl rfl
  · rw [if_neg q]
    by_cases z : i ∈ W
    · rw [if_pos z]; exact .inr rfl
    · rw [if_neg z, o i z]; exact .inl rfl
theorem Off.join {K W X : List Nat} {s s' u : Tr AV} (o : Off X (copyK K s' (anyT W s)) u) : Off (W ++ (K ++ X)) s u := fun i hi => by
  simp only [List.mem_append, not_or] at hi
  rw [o i hi.2.2, gv_copyK, if_neg hi.2.1, gv_anyT, if_neg hi.1]
theorem ops_okJ : ∀ (c : JCode), opsy c = true → ∀ (g : Option (Nat × Bool)) {s : Tr AV} {h : EH} {Q : SQ} {rest : List AOper} {K : AS → AHeap → Prop}, (∀ t w, g = some (t, w) → gv s (.t t) = .bool w ∧ t ∉ writes c) → sj P W0 c Q s h →
    (∀ s' h', Q .normal s' h' → Off (writes c) s s' → awpOpsG P W0 rest K (mkS s') h'.list) → awpOpsG P W0 ((jflat c).map (gw g) ++ rest) K (mkS s) h.list
  | .skip, _, g, s, h, Q, rest, K, hg, e, k => by simp only [sj] at e; exact k s h e (.refl _ _)
  | .op d o, _, g, s, h, Q, rest, K, hg, e, k => by
    simp only [sj] at e
    refine ⟨mkS s, .refl _, ?_⟩
    have hop : o.wp P W0 d (awpOpsG P W0 rest K) (mkS s) h.list := opS_ok (fun v h' q => by rw [← mkS_putO]; exact k _ _ q (.putO _ _ _)) (opJ_opS e)
    cases g with
    | none => exact hop
    | some x =>
      obtain ⟨t, w⟩ := x
      have := (hg t w rfl).1
      have e2 : (mkS s).s t = .bool w := by rw [← this, gv_eq]; rfl
      simp only [gw, AOper.wp, e2, if_true]
      exact hop
  | .grp t w c, ho, g, s, h, Q, rest, K, hg, e, k => by
    simp only [opsy, Bool.and_eq_true, Bool.not_eq_true'] at ho
    obtain ⟨⟨h1, h2⟩, h3⟩ := ho
    have hnt : t ∉ writes c := fun q => by
      rw [← writes0_eq c h1] at q
      rw [memB_iff.2 q] at h2; cases h2
    simp only [sj] at e
    simp only [jflat, gw_gw]
    have skip : ((∃ b, gv s (.t t) = .bool b ∧ b ≠ w) ∨ ∃ vs, gv s (.t t) = .pl (.tuple vs)) → Q .normal (undefs (jflat c) s) h → awpOpsG P W0 ((jflat c).map (gw (some (t, w))) ++ rest) K (mkS s) h.list := fun ht q =>
      skip_ok (jflat c) [] s h3 ht (fun u hu => by simp at hu) (k _ _ q ((undefs_off _ _).mono (dsts_jflat c)))
    unfold condG at e
    split at e
    · rename_i b hb
      split at e
      · rename_i hbw
        subst hbw
        exact ops_okJ c h1 (some (t, b)) (fun t' w' z => by cases z; exact ⟨hb, hnt⟩) e k
      · rename_i hbw; exact skip (.inl ⟨b, hb, hbw⟩) e
    · rename_i vs hb; exact skip (.inr ⟨vs, hb⟩) e
    · exact e.elim
  | .seq none a b, ho, g, s, h, Q, rest, K, hg, e, k => by
    simp only [opsy, Bool.and_eq_true] at ho
    simp only [sj] at e
    simp only [jflat, List.map_append, List.append_assoc]
    refine ops_okJ a ho.1 g (fun t w z => ⟨(hg t w z).1, fun q => (hg t w z).2 (by simp [writes, q])⟩) e fun s' h' q o => ?_
    refine ops_okJ b ho.2 g (fun t w z => ⟨by rw [o t fun q => (hg t w z).2 (by simp [writes, q])]; exact (hg t w z).1, fun q => (hg t w z).2 (by simp [writes, q])⟩) q fun s2 h2 q2 o2 => ?_
    exact k _ _ q2 ((o.trans o2).mono fun i hi => by simpa [writes] using hi)
  | .seq (some L) a b, ho, g, s, h, Q, rest, K, hg, e, k => by
    simp only [opsy, Bool.and_eq_true] at ho
    simp only [sj] at e
    obtain ⟨J, e1, e2⟩ := e
    simp only [jflat, List.map_append, List.append_assoc]
    refine ops_okJ a ho.1 g (fun t w z => ⟨(hg t w z).1, fun q => (hg t w z).2 (by simp [writes, q])⟩) e2 fun s' h' q o => ?_
    refine awpOpsG_le (copyK_le (K := L) o) ?_
    refine ops_okJ b ho.2 g (fun t w z => ⟨?_, fun q => (hg t w z).2 (by simp [writes, q])⟩) (allV_app e1 q) fun s2 h2 q2 o2 => ?_
    · rw [gv_copyK, if_neg fun q => (hg t w z).2 (by simp [writes, q]), gv_anyT, if_neg fun q => (hg t w z).2 (by simp [writes, q])]
      exact (hg t w z).1
    · exact k _ _ q2 (by simpa [writes] using o2.join)
theorem sj_ok : ∀ (c : JCode) (ac : ACode) (s : Tr AV) (h : EH) (Q : SQ) (K : AQ), strip c = some ac → (∀ x s h, Q x s h → K x (mkS s) h.list) → sj P W0 c Q s h → awpG P W0 ac K (mkS s) h.list := by
  intro c
  induction c with
  | skip =>
    intro ac s h Q K hs hk e
    simp only [strip, Option.some.injEq] at hs
    subst hs
    simp only [sj] at e
    exact hk _ _ _ e
  | op => intro ac s h Q K hs; simp [strip] at hs
  | grp => intro ac s h Q K hs; simp [strip] at hs
  | ops c ih =>
    intro ac s h Q K hs hk e
    simp only [strip] at hs
    split at hs
    rotate_left
    · cases hs
    rename_i ho
    cases hs
    simp only [sj] at e
    have := ops_okJ c ho none (rest := []) (K := K .normal) (fun t w z => by cases z) e fun s' h' q o => ⟨_, .refl _, hk _ _ _ q⟩
    have e2 : (jflat c).map (gw none) = jflat c := by
      conv => rhs; rw [← List.map_id (jflat c)]
      refine List.map_congr_left fun o _ => ?_
      obtain ⟨d, g, op⟩ := o
      cases g <;> rfl
    rw [e2, List.append_nil] at this
    exact this
  | draw l after pn pubs =>
    intro ac s h Q K hs hk e
    simp only [strip] at hs
    split at hs
    rotate_left
    · cases hs
    rename_i hn
    cases hs
    simp only [sj] at e
    refine drawC_ok (k := kx (Q .normal)) hn (fun s h q => ?_) (drawG_ok _ _ _ _ _ s h e)
    obtain ⟨s1, es, q⟩ := q
    rw [← es]
    exact hk _ _ _ q
  | seq L a b iha ihb =>
    intro ac s h Q K hs hk e
    simp only [strip, Option.bind_eq_some_iff, Option.map_eq_some_iff] at hs
    obtain ⟨a', hsa, b', hsb, rfl⟩ := hs
    cases L with
    | none =>
      simp only [sj] at e
      refine iha a' s h _ (AQ.next (fun st H => ∃ st', AS.le st' st ∧ awpG P W0 b' K st' H) K) hsa (fun x s h q => ?_) e
      cases x with
      | normal => exact ⟨_, .refl _, ihb b' s h Q K hsb hk q⟩
      | exit i => exact hk _ _ _ q
      | ret => exact hk _ _ _ q
    | some L =>
      simp only [sj] at e
      obtain ⟨J, e1, e2⟩ := e
      refine iha a' s h _ (AQ.next (fun st H => ∃ st', AS.le st' st ∧ awpG P W0 b' K st' H) K) hsa (fun x s' h' q => ?_) (sj_off a s h e2)
      obtain ⟨q, o⟩ := q
      cases x with
      | normal => exact ⟨_, copyK_le (K := L) o, ihb b' _ h' Q K hsb hk (allV_app e1 q)⟩
      | exit i => exact hk _ _ _ q
      | ret => exact hk _ _ _ q
  | cond c x y ihx ihy =>
    intro ac s h Q K hs hk e
    simp only [strip, Option.bind_eq_some_iff, Option.map_eq_some_iff] at hs
    obtain ⟨x', hsx, y', hsy, rfl⟩ := hs
    simp only [sj] at e
    rw [gv_eq] at e
    obtain ⟨t, ht, e1, e2⟩ := condS_bool e
    simp only [awpG, ht]
    cases t with
    | true => exact ihx x' s h Q K hsx hk (e1 rfl)
    | false => exact ihy y' s h Q K hsy hk (e2 rfl)
  | block id c ih =>
    intro ac s h Q K hs hk e
    simp only [strip, Option.map_eq_some_iff] at hs
    obtain ⟨c', hs, rfl⟩ := hs
    simp only [sj] at e
    refine ih c' s h _ (AQ.inBlock _ K) hs (fun x s h q => ?_) e
    cases x with
    | normal => exact hk _ _ _ q
    | exit i =>
      simp only [blockQ] at q
      simp only [AQ.inBlock]
      split at q
      · rename_i hi; rw [if_pos hi]; exact hk _ _ _ q
      · rename_i hi; rw [if_neg hi]; exact hk _ _ _ q
    | ret => exact hk _ _ _ q
  | loop L c ih =>
    intro ac s h Q K hs hk e
    simp only [strip, Option.map_eq_some_iff] at hs
    obtain ⟨c', hs, rfl⟩ := hs
    simp only [sj] at e
    obtain ⟨J, n, h0, hI⟩ := e
    refine ⟨fun n st H => ∃ s' h', st = mkS (copyK L s' (anyT (writes c) s)) ∧ H = EH.list h' ∧ appJ L (J n) s' h', n, ⟨_, copyK_le (K := L) (.refl _ s), s, h, rfl, rfl, h0⟩, ?_⟩
    rintro n st H ⟨s', h', rfl, rfl, hi⟩
    refine ih c' _ h' _ _ hs (fun x s2 h2 q => ?_) (sj_off c _ h' (allV_app (hI n) hi))
    obtain ⟨q, o⟩ := q
    cases x with
    | normal =>
      obtain ⟨m, hm, q⟩ := q
      refine ⟨mkS (copyK L s2 (anyT (writes c) s)), ?_, m, hm, s2, h2, rfl, rfl, q⟩
      refine ⟨fun i => ?_, rfl, rfl⟩
      have ee : ∀ u : Tr AV, (mkS u).s i = gv u (.t i) := fun u => (gv_eq u (.t i)).symm
      rw [ee, ee, gv_copyK, gv_anyT]
      by_cases q : i ∈ L
      · rw [if_pos q]; exact .inl rfl
      · rw [if_neg q]
        by_cases z : i ∈ writes c
        · rw [if_pos z]; exact .inr rfl
        · rw [if_neg z, o i z, gv_copyK, if_neg q, gv_anyT, if_neg z]; exact .inl rfl
    | exit i => exact hk _ _ _ q
    | ret => exact hk _ _ _ q
  | exit id =>
    intro ac s h Q K hs hk e
    simp only [strip, Option.some.injEq] at hs
    subst hs
    simp only [sj] at e
    exact hk _ _ _ e
  | ret =>
    intro ac s h Q K hs hk e
    simp only [strip, Option.some.injEq] at hs
    subst hs
    simp only [sj] at e
    exact hk _ _ _ e
  | rangef N f ps asg body =>
    intro ac s h Q K hs hk e
    simp only [strip, Option.some.injEq] at hs
    subst hs
    have := sw_ok (P := P) (W0 := W0) (.rangef N f ps asg body) (.rangef N f ps asg body) s h Q K rfl hk (by
      simp only [sj] at e
      simp only [sw]
      rw [gv_eq] at e
      have ee : ∀ t, gv s (.t t) = (mkS s).s t := fun t => gv_eq s (.t t)
      simp only [ee] at e
      generalize (mkS s).ev f = z at e ⊢
      split at e
      · exact ⟨e.1, e.2.mono fun _ _ q => outJ_outS q⟩
      · exact e.elim)
    exact this
  | no => intro ac s h Q K hs hk e; simp only [sj] at e

/-! ### Functions -/
structure JFun where
  n : Nat
  res : List ARes
  code : JCode
  deriving Inhabited
/-- A result. -/
inductive RV where
  | v (x : AV)
  | c (n : Option Nat) (x : AV)
noncomputable def rvP (x : RV) (h : EH) (k : AV → Prop) : Prop :=
  match x with
  | .v x => x.glob = true ∧ k x
  | .c n x => optP (PExp.evE (.load n (.c x)) S0 h) k
noncomputable def rvsP : List RV → EH → (List AV → Prop) → Prop
  | [], h, k => k []
  | x :: r, h, k => rvP x h fun v => rvsP r h fun vs => k (v :: vs)
noncomputable def retW (l : List RV) (h : EH) (k : AV → EH → Prop) : Prop :=
  match l with
  | [x] => rvP x h fun v => k v h
  | l => rvsP l h fun vs => k (.tup vs) h
noncomputable def rvOf (s : Tr AV) : ARes → RV
  | .t i => .v (gv s (.t i))
  | .c i n => .c n (gv s (.t i))
noncomputable def retJ (res : List ARes) (Q : AV → EH → Prop) : SQ
  | .exit _, _, _ => False
  | .normal, s, h => retW (res.map (rvOf s)) h Q
  | .ret, s, h => retW (res.map (rvOf s)) h Q
theorem rvP_ok {r : ARes} {s : Tr AV} {h : EH} {k : AV → Prop} (e : rvP (rvOf s r) h k) : ∃ v, r.evE s h = some v ∧ k v := by
  cases r with
  | t i =>
    refine ⟨gv s (.t i), ?_, e.2⟩
    have : (mkS s).s i = gv s (.t i) := (gv_eq s (.t i)).symm
    simp only [ARes.evE, this]
    have h1 : (gv s (.t i)).glob = true := e.1
    rw [h1, sel_true]
  | c i n =>
    obtain ⟨v, hv, q⟩ := optP_elim (show optP _ _ from e)
    refine ⟨v, ?_, q⟩
    have := PExp.sub_ev (.load n (.t i)) s h
    simp only [ARes.evE]
    rw [← this]
    exact hv
theorem rvsP_ok : ∀ {res : List ARes} {s : Tr AV} {h : EH} {k : List AV → Prop}, rvsP (res.map (rvOf s)) h k → ∃ vs, ressE s h res = some vs ∧ k vs
  | [], s, h, k, e => ⟨[], rfl, e⟩
  | r :: rs, s, h, k, e => by
    obtain ⟨v, hv, e⟩ := rvP_ok e
    obtain ⟨vs, hvs, e⟩ := rvsP_ok (res := rs) e
    exact ⟨v :: vs, by simp only [ressE, hv, hvs], e⟩
theorem ressE_len {s : Tr AV} {h : EH} : ∀ {rs : List ARes} {xs : List AV}, ressE s h rs = some xs → xs.length = rs.length
  | [], xs, e => by cases e; rfl
  | r :: rs, xs, e => by
    simp only [ressE] at e
    split at e
    · split at e
      · rename_i ys hy
        cases e
        simp [ressE_len hy]
      · cases e
    · cases e
theorem retW_ok {res : List ARes} {s : Tr AV} {h : EH} {Q : AV → EH → Prop} (e : retW (res.map (rvOf s)) h Q) : ∃ r, resE res s h = some r ∧ Q r h := by
  match res with
  | [] => exact ⟨.tup [], rfl, e⟩
  | [r] =>
    obtain ⟨v, hv, q⟩ := rvP_ok (show rvP _ _ _ from e)
    exact ⟨v, by simp only [resE, ressE, hv], q⟩
  | r1 :: r2 :: rs =>
    obtain ⟨vs, hvs, q⟩ := rvsP_ok (res := r1 :: r2 :: rs) (show rvsP ((r1 :: r2 :: rs).map (rvOf s)) h (fun vs => Q (.tup vs) h) from e)
    refine ⟨.tup vs, ?_, q⟩
    have hl := ressE_len hvs
    simp only [resE, hvs]
    match vs, hl with
    | a :: b :: c, _ => rfl
/-- The annotations are the slots that joins and loops carry, in the order of the code. -/
def jOps : Nat → List AOper → List (Option (List Nat)) → JCode × List (Option (List Nat))
  | 0, _, ks => (.no, ks)
  | _ + 1, [], ks => (.skip, ks)
  | n + 1, o :: r, ks => match o.guard with
    | none => match r with
      | [] => (.op o.dst o.op, ks)
      | _ :: _ => let p := jOps n r ks; (.seq none (.op o.dst o.op) p.1, p.2)
    | some (t, w) =>
      let m := grpLen t w [] (o :: r)
      let body := ((o :: r).take m).map fun o => match o.guard with
        | some (t', w') => if Nat.beq t' t && (w' == w) then (⟨o.dst, none, o.op⟩ : AOper) else o
        | none => o
      let p := jOps n body ks
      match (o :: r).drop m with
      | [] => (.grp t w p.1, p.2)
      | x :: xs => match p.2 with
        | k :: ks => let q := jOps n (x :: xs) ks; (.seq k (.grp t w p.1) q.1, q.2)
        | [] => (.no, [])
where
  /-- How many operations belong to a group. -/
  grpLen (t : Nat) (w : Bool) : List Nat → List AOper → Nat
    | _, [] => 0
    | U, o :: r => match o.guard with
      | some (t', w') => if (Nat.beq t' t && (w' == w)) || memB t' U then grpLen t w (o.dst.toList ++ U) r + 1 else 0
      | none => 0
def jOf : ACode → List (Option (List Nat)) → JCode × List (Option (List Nat))
  | .skip, ks => (.skip, ks)
  | .ops l, ks => let p := jOps (2 * l.length + 2) l ks; (.ops p.1, p.2)
  | .draw l after pn pubs, ks => (.draw l after pn pubs, ks)
  | .seq a b, ks => match ks with
    | k :: ks => let p := jOf a ks; let q := jOf b p.2; (.seq k p.1 q.1, q.2)
    | [] => (.no, [])
  | .cond c x y, ks => let p := jOf x ks; let q := jOf y p.2; (.cond c p.1 q.1, q.2)
  | .block id c, ks => let p := jOf c ks; (.block id p.1, p.2)
  | .loop c, ks => match ks with
    | some k :: ks => let p := jOf c ks; (.loop k p.1, p.2)
    | _ => (.no, [])
  | .exit id, ks => (.exit id, ks)
  | .ret, ks => (.ret, ks)
  | .rangef N f ps asg body, ks => (.rangef N f ps asg body, ks)
  | .no, ks => (.no, ks)
/-- What a function asks for, annotated. -/
noncomputable def sjF (P : Program) (W0 : World) (fn : Func) (hs : List Nat) (ks : List (Option (List Nat))) (args : List AV) (h : EH) (Q : AV → EH → Prop) : Prop :=
  match cFunc P hs fn with
  | some e => sj P W0 (jOf e.code ks).1 (retJ e.res Q) (initT args 0 .e) h
  | none => False
def jChk (P : Program) (fn : Func) (hs : List Nat) (ks : List (Option (List Nat))) (na : Nat) : Option (Option ACode) :=
  match cFunc P hs fn with
  | some e => match Nat.ble na e.n with
    | true => some (strip (jOf e.code ks).1)
    | false => none
  | none => none
def jChk' (P : Program) (fn : Func) (hs : List Nat) : Option (Option ACode) :=
  match cFunc P hs fn with
  | some e => some (some e.code)
  | none => none
theorem jcalls_of {f : FuncId} {fn : Func} {hs : List Nat} {ks : List (Option (List Nat))} {args : List AV} {h : EH} {Q : AV → EH → Prop} (na : Nat) (hf : P.funcs[f]? = some fn) (hn : (fn.name == "runtime.NumGoroutine") = false)
    (hj : jChk P fn hs ks na = jChk' P fn hs) (ha : args.length = na) (k : sjF P W0 fn hs ks args h Q) : SCalls P W0 f args h Q := by
  subst ha
  unfold sjF at k
  unfold jChk jChk' at hj
  cases hc : cFunc P hs fn with
  | none => rw [hc] at k; exact k.elim
  | some af =>
    rw [hc] at k hj
    simp only at k hj
    split at hj
    rotate_left
    · cases hj
    rename_i hl
    have hst := Option.some.inj hj
    refine acallsG_of hf hn hc (by simpa using hl) ?_
    rw [← mkS_initT]
    refine sj_ok _ af.code _ h _ _ hst (fun x s h q => ?_) k
    cases x with
    | exit i => exact q.elim
    | normal =>
      obtain ⟨r, hr, q⟩ := retW_ok q
      simp only [retQ, resE_ok hr]
      exact ⟨h, rfl, q⟩
    | ret =>
      obtain ⟨r, hr, q⟩ := retW_ok q
      simp only [retQ, resE_ok hr]
      exact ⟨h, rfl, q⟩
end
attribute [irreducible] sjF jChk jChk'
end Go.Qa
/- The abstract machine: words for what functions ask for, and their rules. -/
namespace Go.Qa
open Go Go.RowKit

noncomputable def H0 : EH := ⟨.e, 0⟩
noncomputable def pW (e : PExp) (k : AV → Prop) : Prop := optP (e.evE S0 H0) k
noncomputable def xW (e : XExp) (h : EH) (k : AV → Prop) : Prop := optP (e.evE S0 h) k
noncomputable def eW (e : EOp) (h : EH) (k : AV → EH → Prop) : Prop := optP (e.evE go0 S0 h) fun p => k p.1 p.2
noncomputable def bi (op : BinOp) (x y : AV) (k : AV → Prop) : Prop := pW (.bin op (.c x) (.c y)) k
noncomputable def ld (h : EH) (x : AV) (k : AV → Prop) : Prop := optP ((PExp.load none (.c x)).evE S0 h) k
noncomputable def ldn (n : Nat) (h : EH) (x : AV) (k : AV → Prop) : Prop := optP ((PExp.load (some n) (.c x)).evE S0 h) k
noncomputable def nl (x : AV) (k : AV → Prop) : Prop := pW (.nilck (.c x)) k
noncomputable def of (o : Nat) (x : AV) (k : AV → Prop) : Prop := pW (.off o (.c x)) k
noncomputable def ia (z : Nat) (x i : AV) (k : AV → Prop) : Prop := pW (.iaddr z (.c x) (.c i)) k
noncomputable def ix (x i : AV) (k : AV → Prop) : Prop := pW (.idxS (.c x) (.c i)) k
noncomputable def lnS (x : AV) (k : AV → Prop) : Prop := pW (.lenS (.c x)) k
noncomputable def lnR (x : AV) (k : AV → Prop) : Prop := pW (.lenR (.c x)) k
noncomputable def ex (x : AV) (i : Nat) (k : AV → Prop) : Prop := pW (.extr (.c x) i) k
noncomputable def pk (c a b : AV) (k : AV → Prop) : Prop := pW (.pick (.c c) (.c a) (.c b)) k
noncomputable def al (z : List AV) (h : EH) (k : AV → EH → Prop) : Prop := eW (.alloc true z) h k
noncomputable def st (n : Nat) (x v : AV) (h : EH) (k : AV → EH → Prop) : Prop := eW (.store n (.c x) (.c v)) h k
def cn (x : AV) (a b : Prop) : Prop := condS x a b
def cg (x : AV) (w : Bool) (a b : Prop) : Prop := condG x w a b
noncomputable def ckP (e : PExp) (h : EH) (v : AV) : Prop := optP (e.evE S0 h) fun v' => v' = v
noncomputable def ckX (e : XExp) (h : EH) (v : AV) : Prop := optP (e.evE S0 h) fun v' => v' = v
def pendBox (x : AV) : Option PObj := x.cells?.map .cells
noncomputable def pubBox (x : AV) (h : EH) (k : AV → EH → Prop) : Prop := optP (pendBox x) fun o => k (o.av h.n) (h.push o.obj)
end Go.Qa
/- The abstract machine: words for what functions ask for: the rules. -/
namespace Go.Qa
open Go Go.RowKit

/-! ### Numbers -/
theorem w64 {n : Int} (h1 : -9223372036854775808 ≤ n) (h2 : n < 9223372036854775808) : IntKind.i64.wrap n = n := by rw [IntKind.wrap_i64]; omega
theorem wu8 {n : Int} (h1 : 0 ≤ n) (h2 : n < 256) : IntKind.u8.wrap n = n := by
  show (if (false && decide (n % 2 ^ 8 ≥ 2 ^ 7)) = true then n % 2 ^ 8 - 2 ^ 8 else n % 2 ^ 8) = n
  simp only [Bool.false_and, Bool.false_eq_true, if_false]
  omega

/-! ### One cell; values that may be handed on -/
@[go_sem] theorem one_int (k : IntKind) (n : Int) : AV.one (.int k n) = true := rfl
@[go_sem] theorem one_bool (b : Bool) : AV.one (.bool b) = true := rfl
@[go_sem] theorem one_str (s : List UInt8) : AV.one (.str s) = true := rfl
@[go_sem] theorem one_ref (b o : Nat) : AV.one (.ref b o) = true := rfl
@[go_sem] theorem one_eref (cs : List AV) : AV.one (.eref cs) = true := rfl
@[go_sem] theorem one_row (o : Option (Nat × Nat)) (f : Bool) (z : Nat) (es : List AV) : AV.one (.row o f z es) = true := rfl
@[go_sem] theorem one_arr (b s l z : Nat) : AV.one (.arr b s l z) = true := rfl
@[go_sem] theorem one_map (m : Nat) : AV.one (.map m) = true := rfl
@[go_sem] theorem one_fn (f : Fn) (a b : List AV) : AV.one (.fn f a b) = true := rfl
@[go_sem] theorem one_iface (t : TypeId) (x : AV) : AV.one (.iface t x) = true := rfl
@[go_sem] theorem one_nil (n c : Nat) : AV.one (.pl (.slice none n c)) = true := rfl
@[go_sem] theorem one_np : AV.one (.pl (.pointer none)) = true := rfl
@[go_sem] theorem one_nm : AV.one (.pl (.map none)) = true := rfl
@[go_sem] theorem cl_int (k : IntKind) (n : Int) : AV.cells? (.int k n) = some [.int k n] := rfl
@[go_sem] theorem cl_bool (b : Bool) : AV.cells? (.bool b) = some [.bool b] := rfl
@[go_sem] theorem cl_str (s : List UInt8) : AV.cells? (.str s) = some [.str s] := rfl
@[go_sem] theorem cl_ref (b o : Nat) : AV.cells? (.ref b o) = some [.ref b o] := rfl
@[go_sem] theorem cl_eref (cs : List AV) : AV.cells? (.eref cs) = some [.eref cs] := rfl
@[go_sem] theorem cl_row (o : Option (Nat × Nat)) (f : Bool) (z : Nat) (es : List AV) : AV.cells? (.row o f z es) = some [.row o f z es] := rfl
@[go_sem] theorem cl_arr (b s l z : Nat) : AV.cells? (.arr b s l z) = some [.arr b s l z] := rfl
@[go_sem] theorem cl_map (m : Nat) : AV.cells? (.map m) = some [.map m] := rfl
@[go_sem] theorem cl_fn (f : Fn) (a b : List AV) : AV.cells? (.fn f a b) = some [.fn f a b] := rfl
@[go_sem] theorem cl_iface (t : TypeId) (x : AV) : AV.cells? (.iface t x) = some [.iface t x] := rfl
@[go_sem] theorem cl_nil (n c : Nat) : AV.cells? (.pl (.slice none n c)) = some [.pl (.slice none n c)] := rfl
@[go_sem] theorem cl_np : AV.cells? (.pl (.pointer none)) = some [.pl (.pointer none)] := rfl
@[go_sem] theorem cl_nm : AV.cells? (.pl (.map none)) = some [.pl (.map none)] := rfl
@[go_sem] theorem cl_agg (cs : List AV) : AV.cells? (.agg cs) = if cs.all AV.one = true then some cs else none := rfl
@[go_sem] theorem cs_int (k : IntKind) (n : Int) : AV.cells (.int k n) = [.int k n] := rfl
@[go_sem] theorem cs_bool (b : Bool) : AV.cells (.bool b) = [.bool b] := rfl
@[go_sem] theorem cs_str (s : List UInt8) : AV.cells (.str s) = [.str s] := rfl
@[go_sem] theorem cs_ref (b o : Nat) : AV.cells (.ref b o) = [.ref b o] := rfl
@[go_sem] theorem cs_eref (cs : List AV) : AV.cells (.eref cs) = [.eref cs] := rfl
@[go_sem] theorem cs_row (o : Option (Nat × Nat)) (f : Bool) (z : Nat) (es : List AV) : AV.cells (.row o f z es) = [.row o f z es] := rfl
@[go_sem] theorem cs_map (m : Nat) : AV.cells (.map m) = [.map m] := rfl
@[go_sem] theorem cs_nil (n c : Nat) : AV.cells (.pl (.slice none n c)) = [.pl (.slice none n c)] := rfl
@[go_sem] theorem cs_agg (cs : List AV) : AV.cells (.agg cs) = if cs.all AV.one = true then cs else [] := by
  show (if cs.all AV.one = true then some cs else none).getD [] = _
  split <;> rfl
@[go_sem] theorem gl_int (k : IntKind) (n : Int) : AV.glob (.int k n) = true := rfl
@[go_sem] theorem gl_bool (b : Bool) : AV.glob (.bool b) = true := rfl
@[go_sem] theorem gl_str (s : List UInt8) : AV.glob (.str s) = true := rfl
@[go_sem] theorem gl_ref (b o : Nat) : AV.glob (.ref b o) = true := rfl
@[go_sem] theorem gl_eref (cs : List AV) : AV.glob (.eref cs) = true := rfl
@[go_sem] theorem gl_row (o : Option (Nat × Nat)) (f : Bool) (z : Nat) (es : List AV) : AV.glob (.row o f z es) = true := rfl
@[go_sem] theorem gl_arr (b s l z : Nat) : AV.glob (.arr b s l z) = true := rfl
@[go_sem] theorem gl_map (m : Nat) : AV.glob (.map m) = true := rfl
@[go_sem] theorem gl_fn (f : Fn) (a b : List AV) : AV.glob (.fn f a b) = true := rfl
@[go_sem] theorem gl_iface (t : TypeId) (x : AV) : AV.glob (.iface t x) = true := rfl
@[go_sem] theorem gl_pl (v : Value) : AV.glob (.pl v) = true := rfl
@[go_sem] theorem gl_agg (cs : List AV) : AV.glob (.agg cs) = true := rfl
@[go_sem] theorem gl_tup (cs : List AV) : AV.glob (.tup cs) = true := rfl
@[go_sem] theorem gl_itr (m : Nat) : AV.glob (.itr m) = true := rfl
@[go_sem] theorem gl_yfn (m : Nat) : AV.glob (.yfn m) = true := rfl
@[go_sem] theorem S0_c (x : AV) : S0.ev (.c x) = x := rfl
attribute [go_sem] optP_some optP_none

/-! ### Computing -/
section
variable {K : AV → Prop} {h : EH} {k : AV → EH → Prop}
theorem pW_ev {e : PExp} (q : e.evE S0 H0 = e.ev S0 []) : pW e K = optP (e.ev S0 []) K := by
  unfold pW; rw [q]
theorem bi_eq (op : BinOp) (x y : AV) : bi op x y K = optP (binAV op x y) K := by
  show optP (binE op x y) K = _
  rw [binE_eq]
@[go_sem] theorem bi_add (q : IntKind) (a b : Int) : bi .add (.int q a) (.int q b) K = K (.int q (q.wrap (a + b))) := by rw [bi_eq]; simp only [binAV, intBin, if_true, optP_some]
@[go_sem] theorem bi_sub (q : IntKind) (a b : Int) : bi .sub (.int q a) (.int q b) K = K (.int q (q.wrap (a - b))) := by rw [bi_eq]; simp only [binAV, intBin, if_true, optP_some]
@[go_sem] theorem bi_mul (q : IntKind) (a b : Int) : bi .mul (.int q a) (.int q b) K = K (.int q (q.wrap (a * b))) := by rw [bi_eq]; simp only [binAV, intBin, if_true, optP_some]
@[go_sem] theorem bi_rem (q : IntKind) (a b : Int) : bi .rem (.int q a) (.int q b) K = (b ≠ 0 ∧ K (.int q (a.tmod b))) := by
  rw [bi_eq]; simp only [binAV, intBin, if_true]
  by_cases e : b = 0 <;> simp [e, optP]
@[go_sem] theorem bi_quo (q : IntKind) (a b : Int) : bi .quo (.int q a) (.int q b) K = (b ≠ 0 ∧ K (.int q (q.wrap (a.tdiv b)))) := by
  rw [bi_eq]; simp only [binAV, intBin, if_true]
  by_cases e : b = 0 <;> simp [e, optP]
@[go_sem] theorem bi_eql (q : IntKind) (a b : Int) : bi .eql (.int q a) (.int q b) K = K (.bool (a == b)) := by rw [bi_eq]; simp only [binAV, intBin, if_true, optP_some]
@[go_sem] theorem bi_neq (q : IntKind) (a b : Int) : bi .neq (.int q a) (.int q b) K = K (.bool (a != b)) := by rw [bi_eq]; simp only [binAV, intBin, if_true, optP_some]
@[go_sem] theorem bi_lss (q : IntKind) (a b : Int) : bi .lss (.int q a) (.int q b) K = K (.bool (decide (a < b))) := by rw [bi_eq]; simp only [binAV, intBin, if_true, optP_some]
@[go_sem] theorem bi_leq (q : IntKind) (a b : Int) : bi .leq (.int q a) (.int q b) K = K (.bool (decide (a ≤ b))) := by rw [bi_eq]; simp only [binAV, intBin, if_true, optP_some]
@[go_sem] theorem bi_gtr (q : IntKind) (a b : Int) : bi .gtr (.int q a) (.int q b) K = K (.bool (decide (b < a))) := by rw [bi_eq]; simp only [binAV, intBin, if_true, optP_some]
@[go_sem] theorem bi_geq (q : IntKind) (a b : Int) : bi .geq (.int q a) (.int q b) K = K (.bool (decide (b ≤ a))) := by rw [bi_eq]; simp only [binAV, intBin, if_true, optP_some]
@[go_sem] theorem bi_eqlS (a b : List UInt8) : bi .eql (.str a) (.str b) K = K (.bool (a == b)) := by rw [bi_eq]; simp only [binAV, strBin, optP_some]
@[go_sem] theorem bi_neqS (a b : List UInt8) : bi .neq (.str a) (.str b) K = K (.bool (!(a == b))) := by rw [bi_eq]; simp only [binAV, strBin, optP_some]
@[go_sem] theorem bi_lssS (a b : List UInt8) : bi .lss (.str a) (.str b) K = K (.bool (Op.bytesLess a b)) := by rw [bi_eq]; simp only [binAV, strBin, optP_some]
@[go_sem] theorem bi_leqS (a b : List UInt8) : bi .leq (.str a) (.str b) K = K (.bool (Op.bytesLess a b || a == b)) := by rw [bi_eq]; simp only [binAV, strBin, optP_some]
@[go_sem] theorem bi_gtrS (a b : List UInt8) : bi .gtr (.str a) (.str b) K = K (.bool (!(Op.bytesLess a b || a == b))) := by rw [bi_eq]; simp only [binAV, strBin, optP_some]
@[go_sem] theorem bi_geqS (a b : List UInt8) : bi .geq (.str a) (.str b) K = K (.bool (!Op.bytesLess a b)) := by rw [bi_eq]; simp only [binAV, strBin, optP_some]
@[go_sem] theorem bi_addS (a b : List UInt8) : bi .add (.str a) (.str b) K = (a.length + b.length ≤ maxLen ∧ K (.str (a ++ b))) := by
  rw [bi_eq]; simp only [binAV, strBin]
  by_cases e : a.length + b.length ≤ maxLen <;> simp [e, optP]
@[go_sem] theorem un_not (b : Bool) : pW (.un .not (.c (.bool b))) K = K (.bool !b) := rfl
@[go_sem] theorem un_neg (q : IntKind) (n : Int) : pW (.un .neg (.c (.int q n))) K = K (.int q (q.wrap (0 - n))) := rfl
@[go_sem] theorem i2i_eq (q q' : IntKind) (n : Int) : pW (.i2i q (.c (.int q' n))) K = K (.int q (q.wrap n)) := rfl
@[go_sem] theorem nl_ref (b o : Nat) : nl (.ref b o) K = K (.ref b o) := rfl
@[go_sem] theorem nl_eref (cs : List AV) : nl (.eref cs) K = K (.eref cs) := rfl
@[go_sem] theorem nl_fn (f : Nat) (a b : List AV) : nl (.fn (.func f) a b) K = K (.fn (.func f) a b) := rfl
@[go_sem] theorem nl_iface (t : TypeId) (x : AV) : nl (.iface t x) K = K (.iface t x) := rfl
@[go_sem] theorem of_ref (n b o : Nat) : of n (.ref b o) K = K (.ref b (o + n)) := rfl
@[go_sem] theorem of_eref (n : Nat) (cs : List AV) : of n (.eref cs) K = (n ≤ cs.length ∧ K (.eref (cs.drop n))) := by
  show optP (if n ≤ cs.length then some (AV.eref (cs.drop n)) else none) K = _
  rw [optP_ite]; rfl
@[go_sem] theorem ia_row (z : Nat) (o : Option (Nat × Nat)) (f : Bool) (es : List AV) (q : IntKind) (n : Int) : ia z (.row o f z es) (.int q n) K = ((0 ≤ n ∧ n < es.length) ∧ K (.eref (es.getD n.toNat .any).cells)) := by
  show optP (if z = z ∧ 0 ≤ n ∧ n < es.length then some (AV.eref (es.getD n.toNat .any).cells) else none) K = _
  rw [optP_ite]; simp only [true_and]; rfl
@[go_sem] theorem ia_arr (z b s l : Nat) (q : IntKind) (n : Int) : ia z (.arr b s l z) (.int q n) K = ((0 ≤ n ∧ n < l) ∧ K (.ref b ((s + n.toNat) * z))) := by
  show optP (if z = z ∧ 0 ≤ n ∧ n < l then some (AV.ref b ((s + n.toNat) * z)) else none) K = _
  rw [optP_ite]; simp only [true_and]; rfl
@[go_sem] theorem ix_eq (l : List UInt8) (q : IntKind) (n : Int) : ix (.str l) (.int q n) K = ((0 ≤ n ∧ n < l.length) ∧ K (.int .u8 (l.getD n.toNat 0).toNat)) := by
  show optP (if 0 ≤ n ∧ n < l.length then some (AV.int .u8 (l.getD n.toNat 0).toNat) else none) K = _
  rw [optP_ite]; rfl
@[go_sem] theorem lnS_eq (l : List UInt8) : lnS (.str l) K = K (.int .i64 l.length) := rfl
@[go_sem] theorem lnR_row (o : Option (Nat × Nat)) (f : Bool) (z : Nat) (es : List AV) : lnR (.row o f z es) K = K (.int .i64 es.length) := rfl
@[go_sem] theorem lnR_arr (b s l z : Nat) : lnR (.arr b s l z) K = K (.int .i64 l) := rfl
@[go_sem] theorem lnR_nil (n c : Nat) : lnR (.pl (.slice none n c)) K = K (.int .i64 n) := rfl
@[go_sem] theorem ex_tup (vs : List AV) (i : Nat) : ex (.tup vs) i K = optP vs[i]? K := rfl
@[go_sem] theorem pk_true (a b : AV) : pk (.bool true) a b K = K a := rfl
@[go_sem] theorem pk_false (a b : AV) : pk (.bool false) a b K = K b := rfl
theorem pk_bool (t a b : Bool) : pk (.bool t) (.bool a) (.bool b) K = K (.bool (if t = true then a else b)) := by cases t <;> rfl
theorem pk_int (t : Bool) (q : IntKind) (a b : Int) : pk (.bool t) (.int q a) (.int q b) K = K (.int q (if t = true then a else b)) := by cases t <;> rfl
@[go_sem] theorem slS_nn (l : List UInt8) : pW (.slS (.c (.str l)) none none) K = K (.str l) := by
  show optP (if 0 ≤ (0 : Int) ∧ (0 : Int) ≤ l.length ∧ (l.length : Int) ≤ l.length then some (AV.str ((l.take (l.length : Int).toNat).drop (0 : Int).toNat)) else none) K = _
  rw [optP_ite, optP_some]
  simp
@[go_sem] theorem slS_sn (l : List UInt8) (q : IntKind) (a : Int) : pW (.slS (.c (.str l)) (some (.c (.int q a))) none) K = ((0 ≤ a ∧ a ≤ l.length) ∧ K (.str (l.drop a.toNat))) := by
  show optP (if 0 ≤ a ∧ a ≤ l.length ∧ (l.length : Int) ≤ l.length then some (AV.str ((l.take (l.length : Int).toNat).drop a.toNat)) else none) K = _
  rw [optP_ite, optP_some]
  simp
@[go_sem] theorem slS_ns (l : List UInt8) (q : IntKind) (b : Int) : pW (.slS (.c (.str l)) none (some (.c (.int q b)))) K = ((0 ≤ b ∧ b ≤ l.length) ∧ K (.str (l.take b.toNat))) := by
  show optP (if 0 ≤ (0 : Int) ∧ (0 : Int) ≤ b ∧ b ≤ l.length then some (AV.str ((l.take b.toNat).drop (0 : Int).toNat)) else none) K = _
  rw [optP_ite, optP_some]
  simp
@[go_sem] theorem slS_ss (l : List UInt8) (q q' : IntKind) (a b : Int) : pW (.slS (.c (.str l)) (some (.c (.int q a))) (some (.c (.int q' b)))) K = ((0 ≤ a ∧ a ≤ b ∧ b ≤ l.length) ∧ K (.str ((l.take b.toNat).drop a.toNat))) := by
  show optP (if 0 ≤ a ∧ a ≤ b ∧ b ≤ l.length then some (AV.str ((l.take b.toNat).drop a.toNat)) else none) K = _
  rw [optP_ite]; rfl
@[go_sem] theorem build_eq (z : List AV) (ps : List (Nat × Nat × Opd)) : pW (.build z ps) K = optP (fillAV z (ps.map fun p => (p.1, p.2.1, S0.ev p.2.2))) (fun cs => K (.agg cs)) := by
  rw [pW_ev rfl]
  simp only [PExp.ev]
  cases fillAV z (ps.map fun p => (p.1, p.2.1, S0.ev p.2.2)) <;> rfl
@[go_sem] theorem fill_nil (cs : List AV) : fillAV cs [] = some cs := rfl
@[go_sem] theorem fill_cons (cs : List AV) (o n : Nat) (x : AV) (r : List (Nat × Nat × AV)) : fillAV cs ((o, n, x) :: r) = match x.cells? with
    | some ns => if ns.length = n ∧ o + n ≤ cs.length then fillAV (over cs o ns) r else none
    | none => none := rfl
@[go_sem] theorem ovr_cons (a : AV) (cs : List AV) (x : AV) (ns : List AV) : over (a :: cs) 0 (x :: ns) = x :: over cs 0 ns := by
  simp only [over, List.take_zero, List.nil_append, List.length_cons, List.cons_append, Nat.zero_add, List.drop_succ_cons]
@[go_sem] theorem ovr_nil (cs : List AV) : over cs 0 [] = cs := by simp [over]
@[go_sem] theorem over_succ (a : AV) (cs : List AV) (o : Nat) (ns : List AV) : over (a :: cs) (o + 1) ns = a :: over cs o ns := by
  simp only [over, List.take_succ_cons, List.cons_append, Nat.add_right_comm o 1, List.drop_succ_cons]
theorem over_all (cs ns : List AV) (e : cs.length = ns.length) : over cs 0 ns = ns := by
  simp [over, e]
@[go_sem] theorem mkfn_eq (f : Fn) (a b : List Opd) : pW (.mkfn f a b) K = (((a.map S0.ev).all AV.glob && (b.map S0.ev).all AV.glob) = true ∧ K (.fn f (a.map S0.ev) (b.map S0.ev))) := by
  rw [pW_ev rfl]
  simp only [PExp.ev, optP_ite, optP_some]
@[go_sem] theorem cn_true (a b : Prop) : cn (.bool true) a b = a := by simp [cn, condS]
@[go_sem] theorem cn_false (a b : Prop) : cn (.bool false) a b = b := by simp [cn, condS]
theorem cn_bool (t : Bool) (a b : Prop) : cn (.bool t) a b = ((t = true → a) ∧ (t = false → b)) := rfl
@[go_sem] theorem cg_tt (a b : Prop) : cg (.bool true) true a b = a := by simp [cg, condG]
@[go_sem] theorem cg_ft (a b : Prop) : cg (.bool false) true a b = b := by simp [cg, condG]
@[go_sem] theorem cg_tf (a b : Prop) : cg (.bool true) false a b = b := by simp [cg, condG]
@[go_sem] theorem cg_ff (a b : Prop) : cg (.bool false) false a b = a := by simp [cg, condG]
theorem cg_bt (t : Bool) (a b : Prop) : cg (.bool t) true a b = ((t = true → a) ∧ (t = false → b)) := by cases t <;> simp [cg, condG]
theorem cg_bf (t : Bool) (a b : Prop) : cg (.bool t) false a b = ((t = false → a) ∧ (t = true → b)) := by cases t <;> simp [cg, condG]
@[go_sem] theorem cg_undef (w : Bool) (a b : Prop) : cg (.pl undef) w a b = b := rfl

/-! ### The heap -/
/-- Cells that are read. -/
def ldc (x : Option AObj) (o : Nat) (K : AV → Prop) : Prop := match x with
  | some (.cells cs) => optP cs[o]? K
  | _ => False
def ldcn (n : Nat) (x : Option AObj) (o : Nat) (K : AV → Prop) : Prop := match x with
  | some (.cells cs) => n ≤ (cs.drop o).length ∧ K (.agg ((cs.drop o).take n))
  | _ => False
@[go_sem] theorem ld_ref (b o : Nat) : ld h (.ref b o) K = ldc (h.get b) o K := by
  show optP (match cellsE h (.ref b o) with | some (c :: _) => some c | _ => none) K = _
  simp only [cellsE, ldc]
  cases h.get b with
  | none => rfl
  | some x =>
    cases x <;> try rfl
    rename_i cs
    simp only
    cases e : cs.drop o with
    | nil =>
      have : cs[o]? = none := by rw [← List.head?_drop, e]; rfl
      rw [this]
    | cons c r =>
      have : cs[o]? = some c := by rw [← List.head?_drop, e]; rfl
      rw [this]
@[go_sem] theorem ldn_ref (n b o : Nat) : ldn n h (.ref b o) K = ldcn n (h.get b) o K := by
  show optP (match cellsE h (.ref b o) with | some cs => sel (Nat.ble n cs.length) (some (AV.agg (cs.take n))) none | _ => none) K = _
  simp only [cellsE, ldcn]
  cases h.get b with
  | none => rfl
  | some x =>
    cases x <;> try rfl
    simp only [optP_sel, Nat.ble_eq, optP_some]
@[go_sem] theorem ld_eref (cs : List AV) : ld h (.eref cs) K = optP cs.head? K := by
  cases cs <;> rfl
@[go_sem] theorem ldn_eref (n : Nat) (cs : List AV) : ldn n h (.eref cs) K = (n ≤ cs.length ∧ K (.agg (cs.take n))) := by
  show optP (sel (Nat.ble n cs.length) (some (AV.agg (cs.take n))) none) K = _
  rw [optP_sel, Nat.ble_eq, optP_some]
@[go_sem] theorem ldc_some (cs : List AV) (o : Nat) : ldc (some (.cells cs)) o K = optP cs[o]? K := rfl
@[go_sem] theorem ldcn_some (n : Nat) (cs : List AV) (o : Nat) : ldcn n (some (.cells cs)) o K = (n ≤ (cs.drop o).length ∧ K (.agg ((cs.drop o).take n))) := rfl
@[go_sem] theorem al_eq (z : List AV) : al z h k = k (.ref h.n 0) (h.push (.cells z)) := rfl
def stc (n : Nat) (x : Option AObj) (b o : Nat) (v : AV) (h : EH) (k : AV → EH → Prop) : Prop := match x with
  | some (.cells cs) => match v.cells? with
    | some ns => (ns.length = n ∧ o + n ≤ cs.length) ∧ k (.pl undef) (h.set b (.cells (over cs o ns)))
    | none => False
  | _ => False
@[go_sem] theorem st_ref (n b o : Nat) (v : AV) : st n (.ref b o) v h k = stc n (h.get b) b o v h k := by
  show optP (match v.cells? with | some ns => storeE n (.ref b o) ns h | none => none) (fun p => k p.1 p.2) = _
  unfold stc
  cases v.cells? with
  | none =>
    cases h.get b with
    | none => rfl
    | some x => cases x <;> rfl
  | some ns =>
    simp only [storeE]
    cases h.get b with
    | none => rfl
    | some x =>
      cases x <;> try rfl
      simp only [optP_sel, optP_some, Bool.and_eq_true, Nat.beq_eq, Nat.ble_eq]
@[go_sem] theorem stc_some (n : Nat) (cs : List AV) (b o : Nat) (v : AV) : stc n (some (.cells cs)) b o v h k = match v.cells? with
    | some ns => (ns.length = n ∧ o + n ≤ cs.length) ∧ k (.pl undef) (h.set b (.cells (over cs o ns)))
    | none => False := rfl
theorem get_push_ne {h : EH} {o : AObj} {i : Nat} (e : i ≠ h.n) : (h.push o).get i = h.get i := by rw [EH.get_push, if_neg e]
theorem get_push_eq {h : EH} {o : AObj} {i : Nat} (e : i = h.n) : (h.push o).get i = some o := by rw [EH.get_push, if_pos e]
theorem get_set_ne {h : EH} {o : AObj} {i b : Nat} (e : i ≠ b) : (h.set b o).get i = h.get i := EH.get_set_ne e
theorem get_set_eq {h : EH} {o : AObj} {i b : Nat} (e : i = b) (l : b < h.n) : (h.set b o).get i = some o := by
  subst e
  rw [EH.set_def, EH.get_eq]
  simp only [if_pos l, Tr.get_put, if_true, Option.getD_some]
@[go_sem] theorem bs_eq (z : Nat) (xs : List Opd) : eW (.bslice z xs) h k = ((xs.map S0.ev).all (AV.isSize z) = true ∧ k (.row none true z (xs.map S0.ev)) h) := by
  show optP (sel ((xs.map S0.ev).all (AV.isSize z)) (some (AV.row none true z (xs.map S0.ev), h)) none) (fun p => k p.1 p.2) = _
  rw [optP_sel, optP_some]
theorem isSize_of {z : Nat} {x : AV} {cs : List AV} (e : x.cells? = some cs) (l : cs.length = z) : AV.isSize z x = true := by
  simp [AV.isSize, e, l]

/-! ### Calls, results -/
theorem callS_i {P : Program} {W0 : World} {g : Nat} {args : List AV} (q : args.all AV.glob = true) (e : SCalls P W0 g args h k) : callS P W0 (.fn (.func g) [] []) args h k :=
  ⟨by simpa using q, by simpa using e⟩
theorem callS_c {P : Program} {W0 : World} {g : Nat} {first args capt : List AV} (q : (first ++ args ++ capt).all AV.glob = true) (e : SCalls P W0 g (first ++ args ++ capt) h k) : callS P W0 (.fn (.func g) first capt) args h k := ⟨q, e⟩
@[go_sem] theorem retW_v (x : AV) : retW [.v x] h k = (x.glob = true ∧ k x h) := rfl
@[go_sem] theorem retW_c (x : AV) : retW [.c none x] h k = ld h x fun v => k v h := rfl
@[go_sem] theorem retW_cn (n : Nat) (x : AV) : retW [.c (some n) x] h k = ldn n h x fun v => k v h := rfl
@[go_sem] theorem retW_nil : retW [] h k = k (.tup []) h := rfl
@[go_sem] theorem retW_two (x y : RV) (r : List RV) : retW (x :: y :: r) h k = rvsP (x :: y :: r) h fun vs => k (.tup vs) h := rfl
@[go_sem] theorem rvsP_nil (K : List AV → Prop) : rvsP [] h K = K [] := rfl
@[go_sem] theorem rvsP_cons (x : RV) (r : List RV) (K : List AV → Prop) : rvsP (x :: r) h K = rvP x h fun v => rvsP r h fun vs => K (v :: vs) := rfl
@[go_sem] theorem rvP_v (x : AV) : rvP (.v x) h K = (x.glob = true ∧ K x) := rfl
@[go_sem] theorem rvP_c (x : AV) : rvP (.c none x) h K = ld h x K := rfl
@[go_sem] theorem rvP_cn (n : Nat) (x : AV) : rvP (.c (some n) x) h K = ldn n h x K := rfl
@[go_sem] theorem ckP_ld (x v : AV) : ckP (.load none (.c x)) h v = ld h x fun v' => v' = v := rfl
@[go_sem] theorem ckP_ldn (n : Nat) (x v : AV) : ckP (.load (some n) (.c x)) h v = ldn n h x fun v' => v' = v := rfl
end

/-! ### Slices that bear their contents -/
def Slc (z : Nat) (es : List AV) (r : AV) : Prop := (r = .pl (.slice none 0 0) ∧ es = []) ∨ ∃ o f, r = .row o f z es
section
variable {K : AV → Prop} {h : EH} {k : AV → EH → Prop} {z : Nat} {es : List AV} {r : AV}
theorem Slc.nil (z : Nat) : Slc z [] (.pl (.slice none 0 0)) := .inl ⟨rfl, rfl⟩
theorem Slc.row (o : Option (Nat × Nat)) (f : Bool) (z : Nat) (es : List AV) : Slc z es (.row o f z es) := .inr ⟨o, f, rfl⟩
theorem Slc.one (s : Slc z es r) : r.one = true := by rcases s with ⟨rfl, _⟩ | ⟨o, f, rfl⟩ <;> rfl
theorem Slc.glob (s : Slc z es r) : r.glob = true := by rcases s with ⟨rfl, _⟩ | ⟨o, f, rfl⟩ <;> rfl
theorem Slc.cells (s : Slc z es r) : r.cells? = some [r] := by rcases s with ⟨rfl, _⟩ | ⟨o, f, rfl⟩ <;> rfl
theorem Slc.ln (s : Slc z es r) : lnR r K = K (.int .i64 es.length) := by rcases s with ⟨rfl, rfl⟩ | ⟨o, f, rfl⟩ <;> rfl
theorem Slc.ia (s : Slc z es r) (q : IntKind) (n : Int) : ia z r (.int q n) K = ((0 ≤ n ∧ n < es.length) ∧ K (.eref (es.getD n.toNat .any).cells)) := by
  rcases s with ⟨rfl, rfl⟩ | ⟨o, f, rfl⟩
  · show False = _
    simp only [List.length_nil]
    apply propext
    constructor
    · exact False.elim
    · rintro ⟨⟨a, b⟩, _⟩
      omega
  · exact ia_row z o f es q n
/-- It may be appended to. -/
def App (h : EH) (z : Nat) (es : List AV) (r : AV) : Prop := (r = .pl (.slice none 0 0) ∧ es = []) ∨ (∃ o, r = .row o true z es) ∨ ∃ t, r = .row (some (t, es.length)) false z es ∧ h.get t = some (.row es.length)
theorem App.slc (s : App h z es r) : Slc z es r := by
  rcases s with ⟨rfl, rfl⟩ | ⟨o, rfl⟩ | ⟨t, rfl, _⟩
  · exact .nil z
  · exact .row _ _ _ _
  · exact .row _ _ _ _
theorem App.nil (h : EH) (z : Nat) : App h z [] (.pl (.slice none 0 0)) := .inl ⟨rfl, rfl⟩
theorem App.full (h : EH) (o : Option (Nat × Nat)) (z : Nat) (es : List AV) : App h z es (.row o true z es) := .inr (.inl ⟨o, rfl⟩)
/-- What there was is as it was, but for rows that were appended to. -/
def Kept (h h' : EH) : Prop := h.n ≤ h'.n ∧ ∀ i o, h.get i = some o → (∀ n, o ≠ .row n) → h'.get i = some o
/-- All that there was is as it was. -/
def Ext (h h' : EH) : Prop := h.n ≤ h'.n ∧ ∀ i, i < h.n → h'.get i = h.get i
theorem Ext.refl (h : EH) : Ext h h := ⟨Nat.le_refl _, fun _ _ => rfl⟩
theorem Ext.trans {a b c : EH} (h : Ext a b) (k : Ext b c) : Ext a c := ⟨Nat.le_trans h.1 k.1, fun i q => by rw [k.2 i (Nat.lt_of_lt_of_le q h.1), h.2 i q]⟩
theorem Ext.get {h h' : EH} (e : Ext h h') {i : Nat} {o : AObj} (q : h.get i = some o) : h'.get i = some o := by rw [e.2 i (EH.get_lt q), q]
theorem Ext.push (h : EH) (o : AObj) : Ext h (h.push o) := ⟨by rw [EH.n_push]; omega, fun i q => get_push_ne (by omega)⟩
theorem App.ext {h h' : EH} (s : App h z es r) (e : Ext h h') : App h' z es r := by
  rcases s with a | a | ⟨t, a, b⟩
  · exact .inl a
  · exact .inr (.inl a)
  · exact .inr (.inr ⟨t, a, e.get b⟩)
/-- The row's token, if it has one. -/
def tok (r : AV) : Option Nat := match r with
  | .row (some (t, _)) false _ _ => some t
  | _ => none
/-- Two slices are put together. -/
theorem app_i {b : Nat} {ys : List AV} {y : AV} (s : App h z es r) (s2 : Slc z ys y) (room : (es.length + ys.length) * b ≤ roomMax)
    (hk : ∀ r' h', App h' z (es ++ ys) r' → h.n ≤ h'.n → (∀ i, i < h.n → tok r ≠ some i → h'.get i = h.get i) → k r' h') : eW (.append z b false (.c r) (.c y)) h k := by
  have hstr : y.isStr = false := by rcases s2 with ⟨rfl, _⟩ | ⟨o, f, rfl⟩ <;> rfl
  have hsrc : srcE h z y = some ys := by
    rcases s2 with ⟨rfl, rfl⟩ | ⟨o, f, rfl⟩
    · rfl
    · simp [srcE, sel_true]
  show optP (match srcE h z y with | some ys => sel (y.isStr == false) (appE z b r ys h) none | none => none) (fun p => k p.1 p.2)
  rw [hsrc, hstr]
  simp only [beq_self_eq_true, sel_true]
  cases ys with
  | nil =>
    have : r.isSlice = true := by rcases s with ⟨rfl, rfl⟩ | ⟨o, rfl⟩ | ⟨t, rfl, _⟩ <;> rfl
    simp only [appE, this, sel_true, optP_some]
    exact hk r h (by simpa using s) (Nat.le_refl _) fun _ _ _ => rfl
  | cons y0 ys =>
    rcases s with ⟨rfl, rfl⟩ | ⟨o, rfl⟩ | ⟨t, rfl, ht⟩
    · have room' : Nat.ble ((y0 :: ys).length * b) roomMax = true := by rw [Nat.ble_eq]; simpa using room
      simp only [appE, room', sel_true, optP_some]
      refine hk _ _ (.inr (.inr ⟨h.n, rfl, ?_⟩)) (by rw [EH.n_push]; omega) fun i q _ => get_push_ne (by omega)
      exact get_push_eq rfl
    · have room' : (Nat.beq z z && Nat.ble ((es.length + (y0 :: ys).length) * b) roomMax) = true := by simp only [Nat.beq_refl, Bool.true_and, Nat.ble_eq]; exact room
      simp only [appE, room', sel_true, optP_some]
      refine hk _ _ (.inr (.inr ⟨h.n, ?_, ?_⟩)) (by rw [EH.n_push]; omega) fun i q _ => get_push_ne (by omega)
      · rw [List.length_append]
      · rw [get_push_eq rfl, List.length_append]
    · have room' : Nat.ble ((es.length + (y0 :: ys).length) * b) roomMax = true := by rw [Nat.ble_eq]; exact room
      simp only [appE, room', sel_true, ht, Nat.beq_refl, Bool.true_and, optP_some]
      have hl := EH.get_lt ht
      refine hk _ ((h.set t AObj.dead).push (.row (es.length + (y0 :: ys).length))) (.inr (.inr ⟨h.n, ?_, ?_⟩)) (by rw [EH.n_push, EH.n_set]; omega) fun i q q2 => ?_
      · rw [List.length_append]
      · rw [get_push_eq (by rw [EH.n_set]), List.length_append]
      · rw [get_push_ne (by rw [EH.n_set]; omega), get_set_ne]
        intro e; subst e; exact q2 rfl
end

section
variable {h : EH} {k : AV → EH → Prop} {z : Nat} {es : List AV} {r : AV}
/-- One element is appended. -/
theorem app1 {b : Nat} {y : AV} {o : Option (Nat × Nat)} {f : Bool} (s : App h z es r) (room : (es.length + 1) * b ≤ roomMax)
    (hk : ∀ r' h', App h' z (es ++ [y]) r' → tok r' = some h.n → h'.n = h.n + 1 → (∀ i, i < h.n → tok r ≠ some i → h'.get i = h.get i) → k r' h') : eW (.append z b false (.c r) (.c (.row o f z [y]))) h k := by
  have hsrc : srcE h z (.row o f z [y]) = some [y] := by simp [srcE, sel_true]
  show optP (match srcE h z (.row o f z [y]) with | some ys => sel (false == false) (appE z b r ys h) none | none => none) (fun p => k p.1 p.2)
  rw [hsrc]
  simp only [beq_self_eq_true, sel_true]
  rcases s with ⟨rfl, rfl⟩ | ⟨o', rfl⟩ | ⟨t, rfl, ht⟩
  · have room' : Nat.ble ([y].length * b) roomMax = true := by rw [Nat.ble_eq]; simpa using room
    simp only [appE, room', sel_true, optP_some]
    refine hk _ _ (.inr (.inr ⟨h.n, rfl, ?_⟩)) rfl (by rw [EH.n_push]) fun i q _ => get_push_ne (by omega)
    exact get_push_eq rfl
  · have room' : Nat.ble ((es.length + [y].length) * b) roomMax = true := by rw [Nat.ble_eq]; simpa using room
    simp only [appE, room', Nat.beq_refl, Bool.true_and, sel_true, optP_some]
    refine hk _ _ (.inr (.inr ⟨h.n, ?_, ?_⟩)) rfl (by rw [EH.n_push]) fun i q _ => get_push_ne (by omega)
    · rw [List.length_append]
    · rw [get_push_eq rfl, List.length_append]
  · have room' : Nat.ble ((es.length + [y].length) * b) roomMax = true := by rw [Nat.ble_eq]; simpa using room
    simp only [appE, room', sel_true, ht, Nat.beq_refl, Bool.true_and, optP_some]
    have hl := EH.get_lt ht
    refine hk _ ((h.set t AObj.dead).push (.row (es.length + [y].length))) (.inr (.inr ⟨h.n, ?_, ?_⟩)) rfl (by rw [EH.n_push, EH.n_set]) fun i q q2 => ?_
    · rw [List.length_append]
    · rw [get_push_eq (by rw [EH.n_set]), List.length_append]
    · rw [get_push_ne (by rw [EH.n_set]; omega), get_set_ne]
      intro e; subst e; exact q2 rfl
theorem App.tok_lt {t : Nat} (s : App h z es r) (e : tok r = some t) : t < h.n := by
  rcases s with ⟨rfl, rfl⟩ | ⟨o', rfl⟩ | ⟨u, rfl, hu⟩
  · cases e
  · cases o' <;> cases e
  · cases e; exact EH.get_lt hu
/-- It may still be appended to, where its token is as it was. -/
theorem App.keep {h' : EH} (s : App h z es r) (e : ∀ t, tok r = some t → h'.get t = h.get t) : App h' z es r := by
  rcases s with a | a | ⟨u, rfl, hu⟩
  · exact .inl a
  · exact .inr (.inl a)
  · exact .inr (.inr ⟨u, rfl, by rw [e u rfl]; exact hu⟩)
end

/-! ### Bytes, boxes, comparisons -/
section
variable {K : AV → Prop} {h : EH} {k : AV → EH → Prop}
@[go_sem] theorem s2b_eq (l : List UInt8) : eW (.s2b true (.c (.str l))) h k = k (.arr h.n 0 l.length 1) (h.push (.cells (l.map byteAV))) := rfl
@[go_sem] theorem box_eq (x : AV) : eW (.box true (.c x)) h k = match x.cells? with
    | some cs => k (.ref h.n 0) (h.push (.cells cs))
    | none => False := by
  show optP (match x.cells? with | some cs => sel true (some (.ref h.n 0, h.push (.cells cs))) none | none => none) (fun p => k p.1 p.2) = _
  cases x.cells? <;> rfl
theorem mapM_byte : ∀ l : List UInt8, (l.map byteAV).mapM byteOf = some l
  | [] => rfl
  | b :: l => by
    have hb : byteOf (byteAV b) = some b := by
      have := b.toNat_lt
      simp [byteOf, byteAV]
    simp only [List.map_cons, List.mapM_cons, hb, mapM_byte l]
    rfl
theorem b2s_i {b : Nat} {l : List UInt8} {n : Nat} (hb : h.get b = some (.cells (l.map byteAV))) (hn : n = l.length) : xW (.b2s (.c (.arr b 0 n 1))) h K = K (.str l) := by
  subst hn
  have he : elemsE h (.arr b 0 l.length 1) = some (l.map byteAV) := by
    simp only [elemsE, hb, if_true, Nat.zero_add, List.length_map, Nat.le_refl, List.drop_zero]
    rw [List.take_of_length_le (by simp)]
  show optP (((elemsE h (.arr b 0 l.length 1)).bind fun es => es.mapM byteOf).map .str) K = _
  rw [he]
  simp only [Option.bind_some, mapM_byte, Option.map_some, optP_some]
theorem eqs_eq (e : EK) (n : Bool) (x y : AV) : xW (.eqs e n (.c x) (.c y)) h K = optP (e.eq x y) fun b => K (.bool (if n then !b else b)) := by
  show optP ((e.eq x y).map fun b => .bool (if n then !b else b)) K = _
  cases e.eq x y <;> rfl
@[go_sem] theorem eqs_ref (n : Bool) (b o : Nat) : xW (.eqs .ptr n (.c (.ref b o)) (.c (.pl (.pointer none)))) h K = K (.bool n) := by rw [eqs_eq]; cases n <;> rfl
@[go_sem] theorem eqs_eref (n : Bool) (cs : List AV) : xW (.eqs .ptr n (.c (.eref cs)) (.c (.pl (.pointer none)))) h K = K (.bool n) := by rw [eqs_eq]; cases n <;> rfl
@[go_sem] theorem eqs_np (n : Bool) : xW (.eqs .ptr n (.c (.pl (.pointer none))) (.c (.pl (.pointer none)))) h K = K (.bool !n) := by rw [eqs_eq]; cases n <;> rfl
@[go_sem] theorem eqs_if (n : Bool) (t : TypeId) (x : AV) : xW (.eqs .ifc n (.c (.iface t x)) (.c (.pl .nilIface))) h K = K (.bool n) := by rw [eqs_eq]; cases n <;> rfl
@[go_sem] theorem eqs_ni (n : Bool) : xW (.eqs .ifc n (.c (.pl .nilIface)) (.c (.pl .nilIface))) h K = K (.bool !n) := by rw [eqs_eq]; cases n <;> rfl
@[go_sem] theorem eqs_map (n : Bool) (m : Nat) : xW (.eqs .mp n (.c (.map m)) (.c (.pl (.map none)))) h K = K (.bool n) := by rw [eqs_eq]; cases n <;> rfl
@[go_sem] theorem eqs_nm (n : Bool) : xW (.eqs .mp n (.c (.pl (.map none))) (.c (.pl (.map none)))) h K = K (.bool !n) := by rw [eqs_eq]; cases n <;> rfl
@[go_sem] theorem eqs_agg (ks : List SK) (n : Bool) (a b : List AV) : xW (.eqs (.st ks) n (.c (.agg a)) (.c (.agg b))) h K = optP (eqAggs ks (.agg a) (.agg b)) fun t => K (.bool (if n then !t else t)) := eqs_eq _ _ _ _
end
end Go.Qa
/- The abstract machine: functions of the library that are known by their contracts: joined strings, copied maps. -/
namespace Go.Qa
open Go Go.RowKit

def strsOf : List AV → Option (List (List UInt8))
  | [] => some []
  | .str s :: r => match strsOf r with
    | some l => some (s :: l)
    | none => none
  | _ => none
theorem strsOf_eq : ∀ {es : List AV} {l : List (List UInt8)}, strsOf es = some l → es = l.map .str
  | [], l, e => by cases e; rfl
  | x :: r, l, e => by
    cases x <;> simp only [strsOf] at e <;> try (cases e; done)
    split at e
    · rename_i l' hl
      cases e
      rw [strsOf_eq hl]; rfl
    · cases e
def joinT (sep : List UInt8) : List (List UInt8) → List UInt8
  | [] => []
  | x :: r => sep ++ (x ++ joinT sep r)
def joinB (sep : List UInt8) : List (List UInt8) → List UInt8
  | [] => []
  | x :: r => x ++ joinT sep r
theorem joinT_eq (sep : List UInt8) : ∀ l, joinT sep l = Lib.joinTail sep l
  | [] => rfl
  | x :: r => by
    simp only [joinT, joinT_eq sep r, Lib.joinTail, List.map_cons, List.flatten_cons, List.append_assoc]
theorem joinB_eq (sep : List UInt8) (l : List (List UInt8)) : joinB sep l = Lib.join l sep := by
  cases l with
  | nil => rfl
  | cons x r => rw [Lib.join_cons, ← joinT_eq]; rfl

/-- The world went on in blocks of its own. -/
theorem frame_below {W0 : World} {H : AHeap} {G : Ghost} {w w' : World} (h : HInv W0 H G w) (hb : Below w.heap.size w w') : HInv W0 H G w' ∧ Next G w G w' :=
  ⟨h.frame (h.base.trans (hb.mono h.base.size)) hb.size fun B n q => hb.block B (h.lt B n q).2, ⟨.refl G, hb.size, fun B hB _ => hb.block B hB, fun _ _ q => .inl q⟩⟩

noncomputable def joinP (args : List AV) (h : EH) : Option (AV × EH) :=
  match args with
  | [.row _ _ _ es, .str sep] => match strsOf es with
    | some l => sel (Nat.ble l.length 140737488355328 && Nat.ble (joinB sep l).length 140737488355328) (some (.str (joinB sep l), h)) none
    | none => none
  | [.pl (.slice none 0 0), .str sep] => some (.str [], h)
  | _ => none
theorem joinP_ok {P : Program} {W0 : World} {f : FuncId} (hE : Enters P f)
    (h0 : ∀ (a : Option Addr) (c : Nat) (sep : ByteArray) (w : World), Calls P f #[.slice a 0 c, .string sep] w fun e w' => e = .returned (.string ⟨#[]⟩) ∧ w' = w)
    (hj : ∀ (bk o c : Nat) (xs : List ByteArray) (sep : ByteArray) (w : World), (∀ (j : Nat) x, xs[j]? = some x → w.cell? ⟨bk, o + j, none⟩ = some (.string x)) → bk < w.heap.size → xs.length ≤ 140737488355328 → xs.length ≤ c → (Lib.join (xs.map (·.data.toList)) sep.data.toList).length ≤ 140737488355328 →
      Calls P f #[.slice (some ⟨bk, o, none⟩) xs.length c, .string sep] w fun e w' => e = .returned (.string ⟨(Lib.join (xs.map (·.data.toList)) sep.data.toList).toArray⟩) ∧ Below w.heap.size w w')
    (args : List AV) (h : EH) (r : AV) (h' : EH) (e : joinP args h = some (r, h')) : ACalls P W0 f args h.list fun r' H' => r' = r ∧ H' = h'.list := by
  refine ⟨hE, fun G w vs hi hv => ?_⟩
  have none' : ∀ (a : Option Addr) (c : Nat) (sep : List UInt8), vs = [.slice a 0 c, .string ⟨sep.toArray⟩] → r = .str [] → h' = h →
      Calls P f vs.toArray w fun e w' => ∃ v r' H' G', e = .returned v ∧ (r' = r ∧ H' = h'.list) ∧ Next G w G' w' ∧ HInv W0 H' G' w' ∧ VRel G' r' v := by
    rintro a c sep rfl rfl rfl
    refine (h0 a c ⟨sep.toArray⟩ w).mono fun e w' ⟨e1, e2⟩ => ?_
    subst e2
    exact ⟨_, _, _, G, e1, ⟨rfl, rfl⟩, .refl G _, hi, .str [] (by simp)⟩
  unfold joinP at e
  split at e
  · rename_i own full esz es sep
    split at e
    · rename_i l hl
      obtain ⟨q, e⟩ := sel_some e
      simp only [Bool.and_eq_true, Nat.ble_eq] at q
      cases e
      have hes := strsOf_eq hl
      obtain ⟨v1, vs1, rfl, r1, hv1⟩ := hv.head
      obtain ⟨v2, vs2, rfl, r2, hv2⟩ := hv1.head
      have := hv2.eq_nil
      subst this
      cases r2
      cases r1 with
      | row _ _ _ _ a cap cv hs he hm hvv hc hx hf ho =>
        by_cases hz : es.length = 0
        · have hl0 : l = [] := by rw [hes] at hz; simpa using hz
          subst hl0
          exact none' (some a) cap sep (by rw [hz]) rfl rfl
        · have hlen : es.length = l.length := by rw [hes]; simp
          have hsp := hs (by omega)
          have hget : ∀ i, i < l.length → es.getD i .any = .str (l.getD i []) := by
            intro i hi
            rw [hes, List.getD_eq_getElem?_getD, List.getD_eq_getElem?_getD]
            simp [hi]
          have hesz : esz = 1 := by
            obtain ⟨cs, h1, h2⟩ := he 0 (by omega)
            rw [hget 0 (by omega)] at h1
            simp [AV.cells?, AV.one] at h1
            rw [← h2, ← h1]; rfl
          subst hesz
          have hcv : ∀ i, i < l.length → cv i 0 = .string (bs (l.getD i [])) := by
            intro i hi
            have := hvv i 0 (by omega) (by omega)
            rw [hget i hi] at this
            simp [AV.cells, AV.cells?, AV.one] at this
            generalize cv i 0 = z at this
            cases this; rfl
          have ea : a = ⟨a.block, a.off, none⟩ := by cases a; simp_all
          have hcell : ∀ (j : Nat) x, (l.map bs)[j]? = some x → w.cell? ⟨a.block, a.off + j, none⟩ = some (.string x) := by
            intro j x hjx
            have hjl : j < l.length := by have := (List.getElem?_eq_some_iff.1 hjx).1; simpa using this
            have h1 := (hi.imm _ _ _ (hm j 0 (by omega) (by omega))).2
            rw [hcv j hjl] at h1
            simp only [Nat.mul_one, Nat.add_zero] at h1
            rw [h1]
            simp [List.getElem?_eq_getElem hjl] at hjx
            rw [List.getD_eq_getElem?_getD, List.getElem?_eq_getElem hjl]
            simp [hjx]
          have hbk : a.block < w.heap.size := by
            exact hi.immLt (hm 0 0 (by omega) (by omega))
          have emap : (l.map bs).map (·.data.toList) = l := by
            rw [List.map_map]
            conv => rhs; rw [← List.map_id l]
            apply List.map_congr_left
            intro x _
            simp [bs_data]
          have hjj := hj a.block a.off cap (l.map bs) ⟨sep.toArray⟩ w hcell hbk (by simpa using q.1) (by simp; omega) (by rw [emap]; simpa [← joinB_eq] using q.2)
          rw [emap] at hjj
          rw [List.length_map, ← hlen, ← ea] at hjj
          refine hjj.mono fun e w' ⟨e1, e2⟩ => ?_
          obtain ⟨f1, f2⟩ := frame_below hi e2
          refine ⟨_, _, _, G, e1, ⟨rfl, rfl⟩, f2, f1, ?_⟩
          simp only [← joinB_eq]
          exact .str _ (by have := q.2; unfold maxLen; omega)
    · cases e
  · rename_i sep
    cases e
    obtain ⟨v1, vs1, rfl, r1, hv1⟩ := hv.head
    obtain ⟨v2, vs2, rfl, r2, hv2⟩ := hv1.head
    have := hv2.eq_nil
    subst this
    cases r2
    cases r1
    exact none' none 0 sep rfl rfl rfl
  · cases e

/-- A map's copy. -/
noncomputable def cloneP (args : List AV) (h : EH) : Option (AV × EH) :=
  match args with
  | [.map m] => match h.get m with
    | some (.map es c) => some (.map h.n, h.push (.map es c))
    | _ => none
  | [.pl (.map none)] => some (.pl (.map none), h)
  | _ => none
theorem cloneP_ok {P : Program} {W0 : World} {f : FuncId} (hE : Enters P f)
    (h0 : ∀ w, Calls P f #[.map none] w fun e w' => e = .returned (.map none) ∧ w' = w)
    (hc : ∀ (b : Nat) (es : Array MapEntry) (clock : Nat) (w : World), w.heap[b]? = some (.map es clock) → Calls P f #[.map (some b)] w fun e w' => e = .returned (.map (some w.heap.size)) ∧ w' = w.alloc (.map es clock))
    (args : List AV) (h : EH) (r : AV) (h' : EH) (e : cloneP args h = some (r, h')) : ACalls P W0 f args h.list fun r' H' => r' = r ∧ H' = h'.list := by
  refine ⟨hE, fun G w vs hi hv => ?_⟩
  unfold cloneP at e
  split at e
  · rename_i m
    split at e
    · rename_i es c hm
      cases e
      obtain ⟨v1, vs1, rfl, r1, hv1⟩ := hv.head
      have := hv1.eq_nil
      subst this
      cases r1 with
      | map _ B hB =>
        obtain ⟨B', ms, hB', hh, hl, hms⟩ := hi.obj m _ (by rw [EH.get_list]; exact hm)
        rw [hB] at hB'; cases hB'
        refine (hc B ms c w hh).mono fun e w' ⟨e1, e2⟩ => ?_
        subst e2
        have hle := hi.addB_le (G := G) 0
        have hiv := hi.addB (.map es c) (.map ms c) 0 (by simp) ⟨w.heap.size, ms, by simp [Ghost.addB], heap_push_new, hl, fun j hj => by
          obtain ⟨e, m, a, b, d, f, g⟩ := hms j hj
          exact ⟨e, m, a, b, d.mono hle, f.mono hle, g⟩⟩
        refine ⟨_, _, _, _, e1, ⟨rfl, by rw [EH.push_list]⟩, hi.addB_next _ 0, hiv, ?_⟩
        refine .map _ _ ?_
        simp only [Ghost.addB, EH.length_list, if_true]
    · cases e
  · cases e
    obtain ⟨v1, vs1, rfl, r1, hv1⟩ := hv.head
    have := hv1.eq_nil
    subst this
    cases r1
    refine (h0 w).mono fun e w' ⟨e1, e2⟩ => ?_
    subst e2
    exact ⟨_, _, _, G, e1, ⟨rfl, rfl⟩, .refl G _, hi, .pl _⟩
  · cases e
end Go.Qa
