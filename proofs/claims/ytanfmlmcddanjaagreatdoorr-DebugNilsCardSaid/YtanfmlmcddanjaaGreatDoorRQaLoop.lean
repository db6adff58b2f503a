/- The abstract machine: a round of a loop over a function. -/
import Derived.Test.YtanfmlmcddanjaaGreatDoorRQaFn
import Derived.RangeFuncRecord
set_option linter.all false
namespace Go.Qa
open Go Go.RowKit

/-- The slots of a round. -/
def roundS (ss : List AV) (ps : List Nat) (args : List AV) : AS := (ps.zip args).foldl (fun st p => st.set (some p.1) p.2) { s := fun i => ss.getD i .any, loc := fun _ => none }
/-- How a round's body is left. -/
def roundQ (b : Nat) (Q : AV → AHeap → Prop) : AQ := fun e st H =>
  match H[b]? with
  | some (.loop true ss ps asg body _) => match e with
    | .normal => Q (.bool true) (H.set b (.loop false ss ps asg body none))
    | .ret => Q (.bool false) (H.set b (.loop false ss ps asg body (some .ret)))
    | .exit id => Q (.bool false) (H.set b (.loop false ss ps asg body (some (.exit id))))
  | _ => False
def roundA (P : Program) (W0 : World) (b : Nat) (bc : ACode) (Q : AV → AHeap → Prop) : AQ
  | .normal, st, H => match H[b]? with
    | some (.loop false ss ps asg body none) => awp P W0 bc (roundQ b Q) st (H.set b (.loop true ss ps asg body none))
    | _ => False
  | _, _, _ => False

section
variable {P : Program} {W0 : World} {G0 : Ghost} {w0 : World} {N : Nat} {G : Ghost} {L : Nat → Option Nat} {H : AHeap} {w : World}

theorem Rel.puts : ∀ (ps : List Nat) (args : List AV) (vs : List Value) {st : AS} {ca : Act}, Rel W0 G0 w0 N G L st H ca w → VRels G args vs → args.length = ps.length →
    Rel W0 G0 w0 N G L ((ps.zip args).foldl (fun st p => st.set (some p.1) p.2) st) H { ca with tmps := (ps.zip vs).foldl (fun tmps p => tmps.setIfInBounds p.1 p.2) ca.tmps } w
  | [], args, vs, st, ca, h, hv, hl => by simpa using h
  | p :: ps, [], vs, st, ca, h, hv, hl => by simp at hl
  | p :: ps, x :: xs, vs, st, ca, h, hv, hl => by
    obtain ⟨v, vs', rfl, h1, h2⟩ := hv.head
    have := Rel.puts ps xs vs' (h.set (some p) (.of h1) (fun i off e => by subst e; cases h1)) h2 (by simpa using hl)
    simpa [Act.put] using this

theorem ayields_of {b : Nat} {ss : List AV} {ps : List Nat} {asg body : Code} {hs : List Nat} {ac bc : ACode} {args : List AV} {Q : AV → AHeap → Prop} (hb : H[b]? = some (.loop false ss ps asg body none)) (ha : cCode P ss.length hs asg = some ac) (hac : codeCalm asg = true)
    (hbo : cCode P ss.length hs body = some bc) (hbc : codeCalm body = true) (hl : args.length = ps.length) (k : awp P W0 ac (roundA P W0 b bc Q) (roundS ss ps args) H) : AYields P W0 b args H Q := by
  intro G w l vs n hi hbx hv
  obtain ⟨B', r, p1, p2, p3, p4, p5, p6, p7, p8⟩ := hi.obj b _ hb
  rw [hbx] at p1; cases p1
  have base : Rel W0 G w ss.length G (fun _ => none) { s := fun i => ss.getD i .any, loc := fun _ => none } H { tmps := r.tmps, defers := [] } w := by
    refine { bw := hi.base.size, next := .refl G w, inv := hi, defers := .nil _ _ _, size := by simpa using p8.1, slots := fun t ht => .of ?_, locs := fun t cs e => by simp at e, linj := fun t t' B e => by simp at e, lrefs := fun t i off ht e => ?_, pnds := .nil fun _ => rfl }
    · have := p8.2 t ht
      rw [List.getD_eq_getElem?_getD (l := r.tmps.toList)] at this
      rw [Array.getD_eq_getD_getElem?]
      simpa using this
    · have := p8.2 t ht
      simp only at e
      rw [e] at this
      cases this
  have hrel := base.puts ps args vs hv hl
  have efold : (r.params.zip vs.toArray).foldl (fun tmps (p : Tmp × Value) => tmps.setIfInBounds p.1 p.2) r.tmps = (ps.zip vs).foldl (fun tmps p => tmps.setIfInBounds p.1 p.2) r.tmps := by
    rw [p5]; simp
  have hsz : vs.toArray.size = r.params.size := by rw [p5]; simp [hv.1, hl]
  refine ⟨r.fn, _, r.assign, r.body, run_yield p2 hsz, ?_⟩
  refine roundIn_of_wpIn trivial ?_
  have efold' : (r.params.zip vs.toArray).foldl (fun tmps (x : Tmp × Value) => match x with | (t, a) => tmps.setIfInBounds t a) r.tmps = (ps.zip vs).foldl (fun tmps p => tmps.setIfInBounds p.1 p.2) r.tmps := efold
  first | rw [efold'] | rw [efold] | skip
  rw [p6, p7]
  refine Go.wpIn_mono (code_sound (ro := some l) asg ac _ (.inr hac) ha hrel k) (fun e ca w1 q => ?_)
  have hloop : ∀ {H1 : AHeap} {G1 : Ghost} {w1 : World} {busy : Bool} {ss1 : List AV} {ps1 : List Nat} {asg1 body1 : Code} {pend1 : Option Code}, HInv W0 H1 G1 w1 → G.le G1 → H1[b]? = some (.loop busy ss1 ps1 asg1 body1 pend1) →
      ∃ r1 : Loop, G1.bx b = some l ∧ w1.heap[l]? = some (.loop r1) ∧ r1.state = (if busy then .busy else if pend1.isNone then .ready else .done) ∧ ∀ (busy' : Bool) (pend' : Option Code),
        HInv W0 (H1.set b (.loop busy' ss1 ps1 asg1 body1 pend')) G1 (w1.putObj l (.loop { r1 with state := (if busy' then .busy else if pend'.isNone then .ready else .done), pending := pend' })) ∧
        Next G1 w1 G1 (w1.putObj l (.loop { r1 with state := (if busy' then .busy else if pend'.isNone then .ready else .done), pending := pend' })) := by
    intro H1 G1 w1 busy ss1 ps1 asg1 body1 pend1 hi1 hle hb1
    obtain ⟨B1, r1, q1, q2, q3, q4, q5, q6, q7, q8⟩ := hi1.obj b _ hb1
    have := hle.bx b l hbx
    rw [q1] at this
    cases this
    refine ⟨r1, q1, q2, q3, fun busy' pend' => ?_⟩
    exact hi1.setObj b l _ (.loop busy' ss1 ps1 asg1 body1 pend') _ hb1 q1 (by simp) (by simp) (fun c t f z => by rw [q2] at z; cases z) (fun w' hw' => ⟨l, _, q1, hw', rfl, rfl, q5, q6, q7, q8⟩)
  cases e with
  | normal =>
    obtain ⟨st1, H1, k1, G1, L1, h1⟩ := q
    simp only [roundA] at k1
    split at k1
    rotate_left
    · exact k1.elim
    rename_i ss1 ps1 asg1 body1 hb1
    obtain ⟨r1, q1, q2, q3, hput⟩ := hloop h1.inv h1.next.le hb1
    obtain ⟨hi2, hn2⟩ := hput true none
    have hpend : r1.pending = none := by
      obtain ⟨B1, r1', z1, z2, z3, z4, _⟩ := h1.inv.obj b _ hb1
      rw [q1] at z1; cases z1
      rw [q2] at z2; cases z2
      exact z4
    have e1 : ({ r1 with state := .busy } : Loop) = { r1 with state := (if (true : Bool) then .busy else if (none : Option Code).isNone then .ready else .done), pending := none } := by
      cases r1; simp_all
    refine ⟨_, run_beginRound q2 (by rw [q3]; rfl), ?_⟩
    rw [e1]
    refine Go.wpIn_mono (code_sound (ro := some l) body bc _ (.inr hbc) hbo (h1.step hn2 hi2) k1) (fun e2 ca2 w2 qq => ?_)
    have fin : ∀ (pend : Option Code) (bb : Bool) (c : Option Code), bb = c.isNone → pend = c → ∀ st2 H2 G2 L2, Rel W0 G w ss.length G2 L2 st2 H2 ca2 w2 → ∀ ss2 ps2 asg2 body2 pend2, H2[b]? = some (.loop true ss2 ps2 asg2 body2 pend2) → Q (.bool bb) (H2.set b (.loop false ss2 ps2 asg2 body2 c)) →
        ∃ v w', (Instr.endRound l c).run P w2 = .ok v w' ∧ ∃ v' r H' G', Ending.returned v = .returned v' ∧ Q r H' ∧ Next G w G' w' ∧ HInv W0 H' G' w' ∧ VRel G' r v' := by
      intro pend bb c hbb hpc st2 H2 G2 L2 h2 ss2 ps2 asg2 body2 pend2 hb2 hq
      obtain ⟨r2, z1, z2, z3, hput2⟩ := hloop h2.inv h2.next.le hb2
      obtain ⟨hi3, hn3⟩ := hput2 false c
      refine ⟨.bool c.isNone, _, run_endRound c z2, _, .bool bb, _, G2, rfl, hq, h2.next.trans ?_, ?_, by rw [hbb]; exact .bool _⟩
      · simpa using hn3
      · simpa using hi3
    cases e2 with
    | normal =>
      obtain ⟨st2, H2, k2, G2, L2, h2⟩ := qq
      simp only [roundQ] at k2
      split at k2
      · rename_i hb2; exact fin none true none rfl rfl _ _ _ _ h2 _ _ _ _ _ hb2 k2
      · exact k2.elim
    | ret =>
      obtain ⟨st2, H2, k2, G2, L2, h2⟩ := qq
      simp only [roundQ] at k2
      split at k2
      · rename_i hb2; exact fin (some .ret) false (some .ret) rfl rfl _ _ _ _ h2 _ _ _ _ _ hb2 k2
      · exact k2.elim
    | exit id =>
      obtain ⟨st2, H2, k2, G2, L2, h2⟩ := qq
      simp only [roundQ] at k2
      split at k2
      · rename_i hb2; exact fin (some (.exit id)) false (some (.exit id)) rfl rfl _ _ _ _ h2 _ _ _ _ _ hb2 k2
      · exact k2.elim
    | _ => exact qq.elim
  | ret => obtain ⟨_, _, k1, _⟩ := q; exact k1.elim
  | exit id => obtain ⟨_, _, k1, _⟩ := q; exact k1.elim
  | _ => exact q.elim
end
end Go.Qa
