/- The abstract machine, part 11: functions: from the abstract code to the call. -/
import Derived.Test.YtanfmlmcddanjaaGreatDoorRQaCtl
set_option linter.all false
namespace Go.Qa
open Go Go.RowKit

inductive ARes where
  | t (i : Nat)
  | c (i : Nat) (n : Option Nat)
  deriving Inhabited
structure AFunc where
  n : Nat
  res : List ARes
  code : ACode
  deriving Inhabited
def ARes.ev (r : ARes) (st : AS) (H : AHeap) : Option AV :=
  match r with
  | .t i => if (st.s i).glob then some (st.s i) else none
  | .c i n => (PExp.load n (.t i)).ev st H
def AS.init (args : List AV) : AS := { s := fun i => args.getD i .any, loc := fun _ => none }
def resAV (rs : List ARes) (st : AS) (H : AHeap) : Option AV :=
  match rs with
  | [r] => r.ev st H
  | rs => (rs.mapM fun (r : ARes) => r.ev st H).map .tup
/-- What is asked behind a body. -/
def retQ (rs : List ARes) (Q : AV → AHeap → Prop) : AQ
  | .normal, st, H | .ret, st, H => match resAV rs st H with
    | some r => Q r H
    | none => False
  | _, _, _ => False
def cRes (P : Program) (N : Nat) : ResultVar → Option ARes
  | .tmp t => if t < N then some (.t t) else none
  | .cell a t => if a < N then (P.underlying t).bind fun d => (P.info? t).map fun i => .c a (if d.isRow then some i.size else none) else none
def cFunc (P : Program) (hs : List Nat) (fn : Func) : Option AFunc :=
  fn.body.bind fun c => (fn.results.toList.mapM (cRes P fn.ntmps)).bind fun rs => (cCode P fn.ntmps hs c).map fun ac => ⟨fn.ntmps, rs, ac⟩

section
variable {W0 : World} {G0 : Ghost} {w0 : World} {N : Nat} {G G' : Ghost} {L : Nat → Option Nat} {st : AS} {H H' : AHeap} {ca : Act} {w w' : World} {P : Program}

def resSem (tmps : Array Value) : ResultVar → Sem Value
  | .tmp t => pure (tmps.getD t undef)
  | .cell a t => do loadVar t (← asAddr (tmps.getD a undef))
theorem res_sound (h : Rel W0 G0 w0 N G L st H ca w) {r : ResultVar} {a : ARes} (hc : cRes P N r = some a) {x : AV} (hx : a.ev st H = some x) : ∃ v, (resSem ca.tmps r).run P w = .ok v w ∧ VRel G x v := by
  cases r with
  | tmp t =>
    simp only [cRes] at hc
    split at hc
    · cases hc
      simp only [ARes.ev] at hx
      split at hx
      · rename_i ht hg
        cases hx
        exact ⟨_, rfl, (h.slots t ht).rel (fun i o e => by rw [e] at hg; cases hg)⟩
      · cases hx
    · cases hc
  | cell t ty =>
    simp only [cRes] at hc
    split at hc
    · rename_i ht
      simp only [Option.bind_eq_some_iff, Option.map_eq_some_iff] at hc
      obtain ⟨d, hd, i, hi, rfl⟩ := hc
      simp only [ARes.ev] at hx
      have hx0 := hx
      have hop : cOpd N (.tmp t) = some (.t t) := by simp [cOpd, ht]
      obtain ⟨v, hv, hr⟩ := load_sound h hd hi hop hx
      have hcs : ∃ cs, st.cellsAt H (st.s t) = some cs := by
        simp only [PExp.ev, AS.ev] at hx0
        split at hx0
        · rename_i q; exact ⟨_, q⟩
        · rename_i q; exact ⟨_, q⟩
        · cases hx0
      obtain ⟨cs, hcs⟩ := hcs
      obtain ⟨B, o, e, _⟩ := h.cellsAt (h.slots t ht) hcs
      refine ⟨v, ?_, hr⟩
      have e' : ca.eval (.tmp t) = .pointer (some ⟨B, o, none⟩) := e
      rw [e'] at hv
      simp only [resSem, e, asAddr, Sem.run_bind, Sem.run_pure, Result.andThen_ok]
      simpa [Instr.loadAt, Instr.sureAddr] using hv
    · cases hc

theorem ress_sound (h : Rel W0 G0 w0 N G L st H ca w) : ∀ {rs : List ResultVar} {as : List ARes} {xs : List AV}, rs.mapM (cRes P N) = some as → as.mapM (fun r => r.ev st H) = some xs →
    ∃ vs, (rs.mapM (resSem ca.tmps)).run P w = .ok vs w ∧ VRels G xs vs
  | [], as, xs, h1, h2 => by
    simp at h1; subst h1
    simp at h2; subst h2
    exact ⟨[], rfl, .nil G⟩
  | r :: rs, as, xs, h1, h2 => by
    simp only [List.mapM_cons, Option.bind_eq_bind, Option.bind_eq_some_iff, Option.pure_def, Option.some.injEq] at h1
    obtain ⟨a, ha, as', has, rfl⟩ := h1
    simp only [List.mapM_cons, Option.bind_eq_bind, Option.bind_eq_some_iff, Option.pure_def, Option.some.injEq] at h2
    obtain ⟨x, hx, xs', hxs, rfl⟩ := h2
    obtain ⟨v, hv, hr⟩ := res_sound h ha hx
    obtain ⟨vs, hvs, hrs⟩ := ress_sound h has hxs
    exact ⟨v :: vs, by simp [List.mapM_cons, hv, hvs], .cons hr hrs⟩

def oneOf : List Value → Value
  | [v] => v
  | vs => .tuple vs.toArray
theorem results_run {fn : Func} {tmps : Array Value} {vs : List Value} (h : (fn.results.toList.mapM (resSem tmps)).run P w = .ok vs w) :
    (results fn tmps).run P w = .ok (oneOf vs) w := by
  have e : (fn.results.mapM (resSem tmps)).run P w = .ok vs.toArray w := by
    have : fn.results.mapM (resSem tmps) = List.toArray <$> fn.results.toList.mapM (resSem tmps) := by
      rw [← List.mapM_toArray]
    rw [this, Sem.run_map, h]; rfl
  have e2 : results fn tmps = (do let vs ← fn.results.mapM (resSem tmps); pure (if h : vs.size = 1 then vs[0] else .tuple vs)) := by
    unfold results
    congr 1
  rw [e2, Sem.run_bind, e]
  simp only [Result.andThen_ok, Sem.run_pure]
  congr 1
  match vs with
  | [] => rfl
  | [v] => rfl
  | a :: b :: r => rw [dif_neg (by simp)]; rfl

/-- A mark is taken from the deferred calls. -/
theorem Rel.unmark (h : Rel W0 G0 w0 N G L st H ca w) {D : Nat} {Ds : List Nat} (hd : ca.defers = (D :: Ds).map fun D => ({ target := .collected D, args := #[] } : Deferred)) :
    (Instr.takeDeferred D).run P w = .ok [] (w.putObj D (.deferred none)) ∧ Rel W0 G0 w0 N G L st H { ca with defers := Ds.map fun D => ({ target := .collected D, args := #[] } : Deferred) } (w.putObj D (.deferred none)) := by
  obtain ⟨Es, h1, h2, h3⟩ := h.defers
  have hE : Es = D :: Ds := by
    rw [hd] at h1
    have := congrArg (List.map fun (d : Deferred) => match d.target with | .collected r => r | _ => 0) h1
    rw [List.map_map, List.map_map] at this
    have e : ∀ l : List Nat, l.map ((fun (d : Deferred) => match d.target with | .collected r => r | _ => 0) ∘ fun D => ({ target := .collected D, args := #[] } : Deferred)) = l := fun l => by
      conv => rhs; rw [← List.map_id l]
      rfl
    rw [e, e] at this
    exact this.symm
  subst hE
  obtain ⟨a, b, c⟩ := h3 D (by simp)
  obtain ⟨n1, n2⟩ := List.nodup_cons.1 h2
  have hne : ∀ C, C ≠ D → (w.putObj D (.deferred none)).heap[C]? = w.heap[C]? := fun C q => World.putObj_heap_other q
  have hsz : (w.putObj D (.deferred none)).heap.size = w.heap.size := by simp [World.putObj]
  refine ⟨run_takeDeferred c, { bw := h.bw, next := ⟨h.next.le, by rw [hsz]; exact h.next.size, fun B hB q => (hne B (by omega)).trans (h.next.keep B hB q), h.next.fresh⟩, inv := ?_, defers := ?_, size := h.size, slots := h.slots, locs := fun t cs e => ?_, linj := h.linj, lrefs := h.lrefs, pnds := h.pnds.go (.refl G) fun B _ hlt hs ⟨t, o, _, g⟩ => ⟨hs, hne B (fun e => by
    subst e
    cases o with
    | cells cs => obtain ⟨_, vs, ty, g2, _⟩ := g; rw [c] at g2; cases g2
    | map => have g2 := g.2; rw [c] at g2; cases g2
    | arr n cap esz cs => obtain ⟨_, _, _, vs, ty, g2, _⟩ := g; rw [c] at g2; cases g2)⟩ }⟩
  · refine h.inv.frame ?_ (by rw [hsz]; exact Nat.le_refl _) (fun B n q => hne B (fun e => by rw [e, b] at q; cases q))
    refine h.inv.base.trans ⟨rfl, rfl, rfl, by rw [hsz]; exact Nat.le_refl _, fun k hk => hne k (by have := h.bw; omega)⟩
  · refine ⟨Ds, rfl, n2, fun E hE => ?_⟩
    obtain ⟨p, q, r⟩ := h3 E (by simp [hE])
    exact ⟨p, q, (hne E (fun e => n1 (e ▸ hE))).trans r⟩
  · obtain ⟨B, vs, ty, p1, p2, p3, p4, p5, p6⟩ := h.locs t cs e
    exact ⟨B, vs, ty, p1, p2, p3, (hne B (fun e => by rw [e, c] at p4; cases p4)).trans p4, p5, p6⟩
theorem leaves_marks {fn : Func} {R : Ending → World → Prop} {n : Nat} : ∀ (Ds : List Nat) {ca : Act} {w : World}, Rel W0 G0 w0 N G L st H ca w → ca.defers = (Ds.map fun D => ({ target := .collected D, args := #[] } : Deferred)) →
    (∀ ca2 w2, ca2.tmps = ca.tmps → Rel W0 G0 w0 N G L st H ca2 w2 → ∃ v, (results fn ca.tmps).run P w2 = .ok v w2 ∧ R (.returned v) w2) → LeavesInM (RF none) n P fn ca.tmps R ca.defers .returning w
  | [], ca, w, h, hd, hr => by
    rw [hd]
    exact hr ca w rfl h
  | D :: Ds, ca, w, h, hd, hr => by
    obtain ⟨h1, h2⟩ := h.unmark (P := P) hd
    rw [hd]
    refine ⟨by simp, .inl ⟨D, _, rfl, h1, ?_⟩⟩
    exact leaves_marks Ds h2 rfl hr

theorem acalls_of {f : FuncId} {fn : Func} {hs : List Nat} {af : AFunc} {args : List AV} {Q : AV → AHeap → Prop} (hf : P.funcs[f]? = some fn) (hn : (fn.name == "runtime.NumGoroutine") = false) (hc : cFunc P hs fn = some af)
    (hl : args.length ≤ af.n) (k : awp P W0 af.code (retQ af.res Q) (.init args) H) : ACalls P W0 f args H Q := by
  simp only [cFunc, Option.bind_eq_some_iff, Option.map_eq_some_iff] at hc
  obtain ⟨c, hb, rs, hrs, ac, hac, rfl⟩ := hc
  refine ⟨Enters.of hf hn (by rw [hb]; rfl), fun G w vs hi hv => ?_⟩
  refine (callsIn_wide (n := 3)).1 ?_
  refine callsIn_of_wp_marks (F := RF none) hf hb trivial ?_ rfl
  simp only at hl k
  have hrel : Rel W0 G w fn.ntmps G (fun _ => none) (.init args) H { tmps := vs.toArray ++ Array.replicate (fn.ntmps - vs.toArray.size) undef, defers := [] } w := by
    refine { bw := hi.base.size, next := .refl G w, inv := hi, defers := .nil _ _ _, size := ?_, slots := fun t ht => .of ?_, locs := fun t cs e => by simp [AS.init] at e, linj := fun t t' B e => by simp [AS.init] at e, lrefs := fun t i off ht e => ?_, pnds := .nil fun _ => rfl }
    · simp [hv.1]; omega
    · simp only [AS.init]
      rw [Array.getD_eq_getD_getElem?, Array.getElem?_append]
      by_cases q : t < args.length
      · rw [if_pos (by simp [hv.1]; exact q)]
        have := hv.2 t q
        rw [List.getD_eq_getElem?_getD (l := vs)] at this
        simpa using this
      · rw [List.getD_eq_getElem?_getD, List.getElem?_eq_none (by omega)]
        exact .any _
    · simp only [AS.init] at e
      by_cases q : t < args.length
      · have := hv.2 t q
        rw [e] at this
        cases this
      · rw [List.getD_eq_getElem?_getD, List.getElem?_eq_none (by omega)] at e
        cases e
  refine Go.wpIn_mono (code_sound (ro := none) c ac _ (.inl rfl) hac hrel k) (fun e ca w' q => ?_)
  have fin : Post W0 G w fn.ntmps (retQ rs Q .ret) ca w' → LeavesInM (RF none) 3 P fn ca.tmps (fun e w' => ∃ v r H' G', e = .returned v ∧ Q r H' ∧ Next G w G' w' ∧ HInv W0 H' G' w' ∧ VRel G' r v) ca.defers .returning w' := by
    rintro ⟨st, H', k, G', L', h⟩
    obtain ⟨Ds, hds, _⟩ := h.defers
    refine leaves_marks Ds h hds (fun ca2 w2 e2 h => ?_)
    rw [← e2]
    clear hds e2
    simp only [retQ] at k
    split at k
    · rename_i r hr
      have key : ∃ vs, (fn.results.toList.mapM (resSem ca2.tmps)).run P w2 = .ok vs w2 ∧ VRel G' r (oneOf vs) := by
        unfold resAV at hr
        split at hr
        · rename_i a
          obtain ⟨us, hus, hru⟩ := ress_sound (xs := [r]) h hrs (by simp [hr])
          obtain ⟨u, us', rfl, h1, h2⟩ := hru.head
          have := h2.eq_nil
          subst this
          exact ⟨[u], hus, h1⟩
        · rename_i hne
          simp only [Option.map_eq_some_iff] at hr
          obtain ⟨xs, hxs, rfl⟩ := hr
          obtain ⟨us, hus, hru⟩ := ress_sound h hrs hxs
          refine ⟨us, hus, ?_⟩
          have hlen : us.length ≠ 1 := by
            have h1 := (mapM_get hxs).1
            have h2 := hru.1
            intro q
            obtain ⟨a, ha⟩ := List.length_eq_one_iff.1 (show rs.length = 1 by omega)
            exact hne a ha
          match us, hlen with
          | [], _ => exact .tup _ _ hru.1 hru.2
          | [u], q => exact absurd rfl q
          | a :: b :: c, _ => exact .tup _ _ hru.1 hru.2
      obtain ⟨us, hus, hru⟩ := key
      exact ⟨_, results_run hus, _, r, H', G', rfl, k, h.next, h.inv, hru⟩
    · exact k.elim
  cases e with
  | normal => exact fin q
  | ret => exact fin q
  | exit id =>
    obtain ⟨_, _, k, _⟩ := q
    exact k.elim
  | _ => exact q.elim
end
end Go.Qa
