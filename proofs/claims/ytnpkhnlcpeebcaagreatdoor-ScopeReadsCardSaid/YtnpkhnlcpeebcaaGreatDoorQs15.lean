/- Awake answers true, in every world. -/
import Derived.Test.YtnpkhnlcpeebcaaGreatDoorPsC1
import Derived.Test.YtnpkhnlcpeebcaaGreatDoorPsC2
import Derived.Test.YtnpkhnlcpeebcaaGreatDoorPsC3
import Derived.Test.YtnpkhnlcpeebcaaGreatDoorQs14
import Derived.Test.YtnpkhnlcpeebcaaGreatDoorQs10
import Derived.ProofKit
import Derived.OpenShut
import Derived.Test.YtnpkhnlcpeebcaaGreatDoorRows
import Derived.Shelf.Vars
import Derived.Stop.LaidErr
import Derived.Lib.LaidTab
import Derived.Look8
import Derived.WalkSmall
import Derived.MakeChecks
import Derived.Handed
set_option linter.all false
namespace Go.Proofs.YtnpkhnlcpeebcaaGreatDoor
open Go Go.Qa

theorem k_it : Known [mIT] := known_cons (knows_cons (run_knows known_nil r_it1) (knows_cons (run_knows known_nil r_it2) (knows_cons (run_knows known_nil r_it3) (knows_cons (run_knows known_nil r_it4) (knows_cons (run_knows known_nil r_it5) knows_nil))))) known_nil
theorem k_sc : Known [mSC] := known_cons (knows_cons (run_knows known_nil r_sc1) (knows_cons (run_knows known_nil r_sc2) (knows_cons (run_knows known_nil r_sc3) (knows_cons (run_knows known_nil r_sc4) (knows_cons (run_knows known_nil r_sc5) knows_nil))))) known_nil
theorem k_is : Known [mIT, mSC] := known_cons (knows_cons (run_knows known_nil r_it1) (knows_cons (run_knows known_nil r_it2) (knows_cons (run_knows known_nil r_it3) (knows_cons (run_knows known_nil r_it4) (knows_cons (run_knows known_nil r_it5) knows_nil))))) k_sc
theorem k_vl : Known [mVL] := known_cons (knows_cons (run_knows known_nil r_vl) knows_nil) known_nil
theorem k_all : Known [mNW, mPR, mFI] := known_cons (knows_cons (run_knows k_it r_nw) knows_nil) (known_cons (knows_cons (run_knows k_is r_pr) knows_nil) (known_cons (knows_cons (run_knows k_vl r_fi1) (knows_cons (run_knows k_vl r_fi2) knows_nil)) known_nil))
theorem awake : Knows Tryz.prog 12 [] (.bool true) := run_knows k_all r_aw
end Go.Proofs.YtnpkhnlcpeebcaaGreatDoor
/- quadratlaw08.ScopeReads: the program's reader of module files answers as the document's does. -/
set_option maxRecDepth 100000
namespace Go.Proofs.YtnpkhnlcpeebcaaGreatDoor
open Go Go.Qa Go.Proofs

theorem rdL_len : ∀ (ls ns : List (List UInt8)) (es : List Ent) {ns' : List (List UInt8)} {es' : List Ent}, rdL ls ns es = some (ns', es') → ns'.length = ns.length + ls.length ∧ es'.length = es.length + ls.length
  | [], ns, es, ns', es', h => by simp [rdL] at h; obtain ⟨rfl, rfl⟩ := h; simp
  | l :: ls, ns, es, ns', es', h => by
    simp only [rdL] at h
    cases he : entS l with
    | none => rw [he] at h; cases h
    | some x =>
      obtain ⟨a, b, c, k, r, p⟩ := x
      rw [he] at h
      simp only at h
      split at h
      · cases h
      · have := rdL_len ls _ _ h
        simp at this ⊢
        omega
theorem readS_len {s : List UInt8} {m : List UInt8} {n : Int} {ns : List (List UInt8)} {es : List Ent} (h : readS s = some (m, n, ns, es)) : ns.length ≤ s.length + 1 ∧ es.length ≤ s.length + 1 := by
  unfold readS at h
  split at h
  · cases h
  · split at h
    · split at h
      · split at h
        · rename_i x y e
          simp only [Option.some.injEq, Prod.mk.injEq] at h
          obtain ⟨_, _, rfl, rfl⟩ := h
          have := rdL_len _ _ _ e
          have h2 := spl_len 10 s
          simp at this
          omega
        · cases h
      · cases h
    · cases h
theorem read_two {s : List UInt8} {r r' : AV} (hl : s.length ≤ 3000) (h : ReadR (readS s) r) (h' : ReadR (readS s) r') : ∃ m n a b a' b' e, ∃ (ns : List (List UInt8)) (es : List Ent), r = .tup [.str m, .int .i64 n, a, b, .int .i64 e] ∧ r' = .tup [.str m, .int .i64 n, a', b', .int .i64 e] ∧ Slc 1 (ns.map .str) a ∧ Slc 5 (es.map Ent.av) b ∧ Slc 1 (ns.map .str) a' ∧ Slc 5 (es.map Ent.av) b' ∧ ns.length ≤ 1000000 ∧ es.length ≤ 1000000 := by
  cases q : readS s with
  | none =>
    rw [q] at h h'
    have e1 : r = failR := h
    have e2 : r' = failR := h'
    exact ⟨_, _, _, _, _, _, _, [], [], e1, e2, .nil 1, .nil 5, .nil 1, .nil 5, by simp, by simp⟩
  | some x =>
    obtain ⟨m, n, ns, es⟩ := x
    have hb := readS_len q
    rw [q] at h h'
    obtain ⟨a, b, e1, s1, s2⟩ := h
    obtain ⟨a', b', e2, s3, s4⟩ := h'
    exact ⟨m, n, a, b, a', b', 0, ns, es, e1, e2, s1, s2, s3, s4, by omega, by omega⟩
section
variable {W0 : World} {h : EH} {k : AV → EH → Prop} {s : List UInt8}
theorem c12 (hk : k (.bool true) h) : SCalls Tryz.prog W0 12 [] h k := SCalls.of_knows awake hk
theorem c4 (ws : WS W0) (hk : ∀ h', k (.bool true) h') : SCalls Tryz.prog W0 4 [.str s] h k := by
  refine W4_ok ?_
  unfold W4
  rw [lnS_eq, bi_gtr]
  refine cn_i (fun q => ?_) (fun q => ?_)
  · refine ca_i rfl (c12 ?_)
    try simp only [go_sem, EH.n_push, EH.n_set, List.getElem?_cons_zero, List.getElem?_cons_succ, List.head?_cons, List.drop_succ_cons, List.drop_zero, List.take_succ_cons, List.take_zero, List.length_cons, List.length_nil, List.all_cons, List.all_nil, List.map_cons, List.map_nil, Nat.reduceAdd, Nat.reduceLeDiff, Nat.reduceEqDiff, Nat.reduceSub, Nat.zero_add, Nat.le_refl, Int.toNat_zero, Int.reduceToNat, Int.toNat_natCast, and_self, and_true, true_and, if_true, if_false, ↓reduceIte, Bool.and_true, Bool.and_self, Bool.true_and, Bool.false_eq_true, reduceCtorEq, AV.isSize, beq_self_eq_true, decide_true, decide_false, List.nil_append, forall_const, Bool.not_true, Bool.not_false, imp_self, true_implies, false_implies, List.getD_cons_zero, List.getD_cons_succ, Int.reduceLE, Int.reduceLT, Int.cast_ofNat_Int, bne_self_eq_false]
    exact hk _
  simp only [decide_eq_false_iff_not] at q
  have hl : s.length ≤ 3000 := by omega
  refine ca_i rfl (c19 ws hl fun h2 r2 e2 q2 => ?_)
  obtain ⟨m0, n0, a0, b0, _, _, c0, ns0, es0, z1, _, _⟩ := read_two hl q2 q2
  subst z1
  simp only [ex_tup, List.getElem?_cons_zero, List.getElem?_cons_succ, optP_some]
  refine ca_i rfl (c20 ws hl fun h3 r3 e3 q3 => ?_)
  obtain ⟨m, n, a, b, a', b', c, ns, es, z1, rfl, s1, s2, s3, s4, l1, l2⟩ := read_two hl q2 q3
  simp only [AV.tup.injEq, List.cons.injEq, AV.str.injEq, AV.int.injEq, true_and, and_true] at z1
  obtain ⟨rfl, rfl, rfl, rfl, rfl⟩ := z1
  simp only [ex_tup, List.getElem?_cons_zero, List.getElem?_cons_succ, optP_some]
  rw [bi_eqlS]
  simp only [beq_self_eq_true]
  refine and_i (b := true) (fun q J hJ => ?_) (fun h4 e4 => ?_)
  · rw [bi_eql, beq_self_eq_true]
    exact hJ _ (.refl _)
  refine and_i (b := true) (fun q J hJ => ?_) (fun h5 e5 => ?_)
  · refine ca_i (by simp [s1.glob, s3.glob]) (c13 s1 s3 l1 fun h6 e6 => ?_)
    rw [show decide (ns = ns) = true from decide_eq_true rfl]
    exact hJ _ e6
  refine and_i (b := true) (fun q J hJ => ?_) (fun h6 e6 => ?_)
  · refine ca_i (by simp [s2.glob, s4.glob]) (c21 s2 s4 l2 fun h7 e7 => ?_)
    rw [show decide (es = es) = true from decide_eq_true rfl]
    exact hJ _ e7
  refine and_i (b := true) (fun q J hJ => ?_) (fun h7 e7 => ?_)
  · rw [bi_eql, beq_self_eq_true]
    exact hJ _ (.refl _)
  refine and_i (b := true) (fun q J hJ => ?_) (fun h8 e8 => ?_)
  · refine ca_i rfl (c12 ?_)
    exact hJ _ (.refl _)
  rw [retW_v]
  exact ⟨rfl, hk _⟩
end
end Go.Proofs.YtnpkhnlcpeebcaaGreatDoor
/- The abstract machine: from a known call to the model's call; what a law's row wants of a call that answers true and changes nothing. -/
namespace Go.Qa
open Go Go.RowKit Go.ChangeShapes Go.WideShapes Go.ChangeAt

/-- What is known of trees holds of the model's call in every world. -/
theorem Knows.calls {P : Program} {f : FuncId} {args : List AV} {r : AV} (h : Knows P f args r) (W : World) {vs : List Value} (hv : VRels ⟨fun _ => none, fun _ _ => none, fun _ _ => none, fun _ => none⟩ args vs) :
    Calls P f vs.toArray W fun e w' => ∃ v G, e = .returned v ∧ VRel G r v ∧ Below W.heap.size W w' := by
  have hi0 : HInv W [] ⟨fun _ => none, fun _ _ => none, fun _ _ => none, fun _ => none⟩ W :=
    { base := Below.refl _ _, lt := fun _ _ e => (by cases e), imm := fun _ _ _ e => (by cases e), bxs := fun _ _ e => (by cases e), inj := fun _ _ _ e => (by cases e), ats := fun _ _ _ _ e => (by cases e), obj := fun i o e => (by simp at e), cur := fun t _ n _ _ _ _ e => (by simp at e) }
  refine ((h W []).2 _ W vs hi0 hv).mono fun e w' ⟨v, r', H', G', e1, hq, hn, hi', hv'⟩ => ?_
  obtain ⟨rfl, _⟩ := hq
  exact ⟨v, G', e1, hv', hi'.base⟩
theorem Knows.calls_true {P : Program} {f : FuncId} {args : List AV} (h : Knows P f args (.bool true)) (W : World) {vs : List Value} (hv : VRels ⟨fun _ => none, fun _ _ => none, fun _ _ => none, fun _ => none⟩ args vs) :
    Calls P f vs.toArray W fun e w' => e = .returned (.bool true) ∧ Below W.heap.size W w' :=
  (h.calls W hv).mono fun e w' ⟨v, G, e1, hr, hb⟩ => ⟨by cases hr; exact e1, hb⟩

variable {H : Type} {enc : TypeId × Value → H} {P : Program}
/-- Behind a call that was handed no address: whatever blocks it made. -/
theorem post_nil {f : Func} {s : ChangeSpec} {apart fresh handsOn again : Bool} {W W' : World} {args : Array Value} {v : Value} {ds gs : List (DataW H)}
    (hW : DataW.Whole enc P f.params.toList s.vars apart W args.toList ds gs [])
    (hres : ∀ (b : Nat) (sp : Nat → Bool) (hd : Bool), DataW.TrodAll enc P W' b sp hd f.resultTypes.toList (v.resultList f.resultTypes.size) (s.fn H (ds ++ gs)).results [])
    (hargs : ∀ sp : Nat → Bool, DataW.TrodAll enc P W' 0 sp true f.params.toList args.toList (s.fn H (ds ++ gs)).args [])
    (hvars : ∀ sp : Nat → Bool, DataW.TrodVars enc P W' sp s.vars (s.fn H (ds ++ gs)).vars [])
    (hk : ∀ may : MemPlace → Prop, W.keptBut W' may)
    (hok : ∀ (j : Nat) (t : TypeId) (r : Value), f.resultTypes[j]? = some t → (v.resultList f.resultTypes.size)[j]? = some r → Value.okWide P W' .any 0 t r) :
    s.post enc P f apart fresh handsOn again W args v W' := by
  refine ⟨ds, gs, [], [], [], [], hW, hres _ _ _, hargs _, hvars _, hk _, fun _ => ?_⟩
  refine ⟨hok, _, _, ([] ++ []) ++ [], ⟨[] ++ [], [], trodAll_append (hargs _) (hres _ _ _), hvars _, rfl, ?_, ?_⟩, ?_⟩
  · intro b off hp; simp at hp
  · intro ha; simp
  · intro p hp _; simp at hp
end Go.Qa
/- What the library asks of the world, out of the world's shape and of what the rows lay; from the abstract machine's answer to the model's call. -/
set_option maxRecDepth 100000
namespace Go.Proofs.YtnpkhnlcpeebcaaGreatDoor
open Go Go.Qa Go.Proofs Go.RowKit

theorem var_cell0 {W : World} {n : String} {g : Nat} {v : Value} (hg : Tryz.prog.globalNamed n = some g) (h : W.var? Tryz.prog n = some #[v]) : W.cell? ⟨g, 0, none⟩ = some v := by
  have := World.var?_cell hg h 0
  simpa using this
theorem glob_max : ((begin Tryz.prog (fun _ _ => 0) default).world.heap[0]?).bind Obj.row? = some (#[.int .i64 0], 3) := by kernel_rfl
theorem glob_size : Tryz.prog.globals.size = 8 := by kernel_rfl
theorem sent_cell {W : World} {n nm : String} {g : Nat} {d : DataW Unit} {r : List (String × DataW Unit)} (h : laidMet Tryz.prog ((n, .iface nm d) :: r) W)
    (hg : Tryz.prog.globalNamed n = some g) (ht : (Tryz.prog.globals[g]?).map (·.type) = some 148) : ∃ ev, W.cell? ⟨g, 0, none⟩ = some ev ∧ (ev = .nilIface ∨ ∃ te pe, ev = .iface te pe) := by
  obtain ⟨ps, ⟨g0, t0, cs0, f0, p0, q0, hg0, ht0, hv0, hd0, _, e0⟩, _, hrows⟩ := h
  obtain rfl := Option.some.inj (hg.symm.trans hg0)
  obtain rfl := Option.some.inj (ht.symm.trans ht0)
  obtain ⟨l0⟩ := cs0
  obtain ⟨f1, u, v, e, _⟩ := iface_of_trod Tryz.underlying148 hd0
  have e' : l0 = [.iface u v] := e
  subst e'
  exact ⟨_, var_cell0 hg hv0, .inr ⟨_, _, rfl⟩⟩
theorem ws_of {W : World} (hsh : W.ShapedOpen Tryz.prog) (hl : laidMet Tryz.prog Rows.scopeReadsRow.laid W) (hsz : 8 ≤ W.heap.size) : WS W := {
  mx := cell_of_shapedOpen_int (t := 3) (zero := #[.int .i64 0]) hsh (by rw [glob_size]; omega) glob_max rfl (by kernel_rfl) (by kernel_rfl) (by kernel_rfl),
  sy := sent_cell (n := "strconv.ErrSyntax") (g := 1) hl.tail.tail.tail.tail.tail (by kernel_rfl) (by kernel_rfl),
  rg := sent_cell (n := "strconv.ErrRange") (g := 2) hl.tail.tail.tail.tail (by kernel_rfl) (by kernel_rfl),
  sz := by omega,
  tab := fun w hb => var?_below hb (g := 3) (by kernel_rfl) (by omega) (Lib.tabIs_of_head (name := "internal/strconv.uint64pow10") (g := 3) (t := 324) (e := 277) (n := 20) (by kernel_rfl) (by kernel_rfl) Tryz.underlying324 Tryz.underlying277 (by kernel_rfl) (by kernel_rfl) hl.tail.tail) }
theorem reads_calls (s : ByteArray) (hs : s.size ≤ maxLen) (W : World) (ws : WS W) : Calls Tryz.prog 4 #[.string s] W fun e w' => e = .returned (.bool true) ∧ Below W.heap.size W w' := by
  obtain ⟨⟨ls⟩⟩ := s
  have hi0 : HInv W [] ⟨fun _ => none, fun _ _ => none, fun _ _ => none, fun _ => none⟩ W :=
    { base := Below.refl _ _, lt := fun _ _ e => (by cases e), imm := fun _ _ _ e => (by cases e), bxs := fun _ _ e => (by cases e), inj := fun _ _ _ e => (by cases e), ats := fun _ _ _ _ e => (by cases e), obj := fun i o e => (by simp at e), cur := fun t _ n _ _ _ _ e => (by simp at e) }
  have h0 := c4 (W0 := W) (h := ⟨.e, 0⟩) (k := fun r _ => r = .bool true) (s := ls) ws (fun _ => rfl)
  have hv : VRels ⟨fun _ => none, fun _ _ => none, fun _ _ => none, fun _ => none⟩ [AV.str ls] [Value.string ⟨ls.toArray⟩] := .cons (.str ls hs) (.nil _)
  refine (h0.2 _ W _ hi0 hv).mono fun e w' ⟨v, r', H', G', e1, ⟨h', _, hq⟩, hn, hi', hv'⟩ => ?_
  rw [hq] at hv'
  cases hv'
  exact ⟨e1, hi'.base⟩
/-- A wrap that hands the contract the world's shape and what else the row asks. -/
theorem change_both {H : Type} {enc : TypeId × Value → H} {a : Assume} {C : Checked} {os : Os} {f : FuncId} {fn : Func} {s : ChangeSpec} {conds : List PathCond} {apart fresh handsOn again : Bool} {X : World → Array Value → Prop}
    (hX : ∀ (w w' : World) (args : Array Value), w.heap = w'.heap → X w args → X w' args)
    (own : ownKnob C.prog.godebug = none) (started : os.Started) (noInit : C.prog.inits.idxOf? f = none) (hfn : C.prog.funcs[f]? = some fn)
    (witness : ∃ (w : World) (tape : Tape) (i : Input), w.os = os ∧ (w.forCall tape i).Shaped C.prog ∧ i.vars = [] ∧ Input.okWide C.prog (w.forCall tape i) .any w.heap.size f i ∧
      ((s.pre enc C.prog fn conds apart (w.forCall tape i).memory i.args ∧ X (w.forCall tape i).memory i.args) ∧ sizedMet enc C.prog fn (OpenSpec.ofChange s) apart (w.forCall tape i).memory i.args) ∧ a.holds C.prog (lone (Frame.enter C.prog f i.args .normal) [] (w.forCall tape i)))
    (contract : ∀ (W : World) (base : Nat) (args : Array Value) (ds gs : List (DataW H)) (before : List MemPlace),
      (∀ (j : Nat) t v, fn.params[j]? = some t → args[j]? = some v → Value.okWide C.prog W .any base t v) →
      DataW.Whole enc C.prog fn.params.toList s.vars apart W args.toList ds gs before → X W args → W.ShapedOpen C.prog →
      Calls C.prog f args W fun e W' => ∃ v, e = .returned v ∧ s.post enc C.prog fn apart fresh handsOn again W args v W') :
    ReturnsInHanded a C os f .any (fun w args => (s.pre enc C.prog fn conds apart w args ∧ X w args) ∧ sizedMet enc C.prog fn (OpenSpec.ofChange s) apart w args) (s.post enc C.prog fn apart fresh handsOn again) := by
  refine returnsInHanded_of_calls own started noInit witness ?_
  intro w tape i _ hsh _ hok hpre _
  obtain ⟨_, _, _, fn', hfn', _, _, _, _, hval⟩ := hok
  have e : fn' = fn := Option.some.inj (hfn'.symm.trans hfn)
  subst e
  obtain ⟨⟨⟨ds, gs, before, hw, _⟩, hx⟩, _⟩ := hpre
  refine (contract (w.forCall tape i) w.heap.size i.args ds gs before hval (DataW.Whole.of_heap (w' := w.forCall tape i) (by rfl) hw) (hX _ _ _ (by rfl) hx) hsh).mono fun e W' ⟨v, he, hp⟩ => ?_
  subst he
  exact ChangeSpec.post_blind hp
end Go.Proofs.YtnpkhnlcpeebcaaGreatDoor
