/- Contracts: the program's reader of module files. -/
import Derived.Test.YtnpkhnlcpeebcaaGreatDoorQs13
import Derived.Test.YtnpkhnlcpeebcaaGreatDoorPsW2
import Derived.Test.YtnpkhnlcpeebcaaGreatDoorQs10
import Derived.Test.YtnpkhnlcpeebcaaGreatDoorProg
import Derived.Test.YtnpkhnlcpeebcaaGreatDoorPsJ
set_option linter.all false
set_option maxRecDepth 100000
namespace Go.Proofs.YtnpkhnlcpeebcaaGreatDoor
open Go Go.Qa Go.Proofs

abbrev nilA : AV := .pl (.slice none 0 0)
theorem new5 (h : EH) (y1 y2 y3 y4 y5 : AV) : B5 (((((h.push (.cells [y1])).push (.cells [y2])).push (.cells [y3])).push (.cells [y4])).push (.cells [y5])) h.n y1 y2 y3 y4 y5 ∧ Ext h (((((h.push (.cells [y1])).push (.cells [y2])).push (.cells [y3])).push (.cells [y4])).push (.cells [y5])) := by
  have ne : ∀ (g : EH) (o : AObj) (i : Nat), i < g.n → (g.push o).get i = g.get i := fun g o i q => get_push_ne (by omega)
  refine ⟨⟨?_, ?_, ?_, ?_, ?_⟩, ((((Ext.push _ _).trans (.push _ _)).trans (.push _ _)).trans (.push _ _)).trans (.push _ _)⟩
  · rw [ne _ _ _ (by simp only [EH.n_push]; omega), ne _ _ _ (by simp only [EH.n_push]; omega), ne _ _ _ (by simp only [EH.n_push]; omega), ne _ _ _ (by simp only [EH.n_push]; omega), get_push_eq rfl]
  · rw [ne _ _ _ (by simp only [EH.n_push]; omega), ne _ _ _ (by simp only [EH.n_push]; omega), ne _ _ _ (by simp only [EH.n_push]; omega), get_push_eq (by simp only [EH.n_push])]
  · rw [ne _ _ _ (by simp only [EH.n_push]; omega), ne _ _ _ (by simp only [EH.n_push]; omega), get_push_eq (by simp only [EH.n_push])]
  · rw [ne _ _ _ (by simp only [EH.n_push]; omega), get_push_eq (by simp only [EH.n_push])]
  · rw [get_push_eq (by simp only [EH.n_push])]
theorem cn_i {t : Bool} {a b : Prop} (x : t = true → a) (y : t = false → b) : cn (.bool t) a b := by rw [cn_bool]; exact ⟨x, y⟩
theorem or_v {t b : Bool} {K : AV → EH → AV → Prop} {B : (AV → EH → Prop) → Prop} {h : EH} (hB : t = false → ∀ J : AV → EH → Prop, (∀ h', Ext h h' → J  (.bool b) h') → B J) (hK : ∀  v h', Ext h h' → K  v h' (.bool (t || b))) :
    ∃ J : AV → EH → Prop, (∀  v h', J  v h' → pk (.bool t) (.bool true) v (K  v h')) ∧ cg (.bool t) false (B J) (J  (.pl undef) h) := by
  refine ⟨fun  v h' => Ext h h' ∧ (t = false → v = .bool b), fun  v h' j => ?_, ?_⟩
  · cases t with
    | true => rw [pk_true]; exact hK  v h' j.1
    | false => obtain ⟨j1, j2⟩ := j; rw [j2 rfl]; rw [pk_false]; have := hK  (.bool b) h' j1; exact this
  · rw [cg_bf]
    exact ⟨fun q => hB q _ fun  h' e => ⟨e, fun _ => rfl⟩, fun q => ⟨.refl h, fun z => by rw [q] at z; cases z⟩⟩
theorem or_v4 {t b : Bool} {K : AV → AV → AV → AV → EH → AV → Prop} {B : (AV → AV → AV → AV → EH → Prop) → Prop} {h : EH} (hB : t = false → ∀ J : AV → AV → AV → AV → EH → Prop, (∀ x0 x1 x2 h', Ext h h' → J x0 x1 x2 (.bool b) h') → B J) (hK : ∀ x0 x1 x2 v h', Ext h h' → K x0 x1 x2 v h' (.bool (t || b))) :
    ∃ J : AV → AV → AV → AV → EH → Prop, (∀ x0 x1 x2 v h', J x0 x1 x2 v h' → pk (.bool t) (.bool true) v (K x0 x1 x2 v h')) ∧ cg (.bool t) false (B J) (J (.pl undef) (.pl undef) (.pl undef) (.pl undef) h) := by
  refine ⟨fun _ _ _ v h' => Ext h h' ∧ (t = false → v = .bool b), fun x0 x1 x2 v h' j => ?_, ?_⟩
  · cases t with
    | true => rw [pk_true]; exact hK _ _ _ v h' j.1
    | false => obtain ⟨j1, j2⟩ := j; rw [j2 rfl]; rw [pk_false]; have := hK x0 x1 x2 (.bool b) h' j1; exact this
  · rw [cg_bf]
    exact ⟨fun q => hB q _ fun _ _ _ h' e => ⟨e, fun _ => rfl⟩, fun q => ⟨.refl h, fun z => by rw [q] at z; cases z⟩⟩
theorem or_v7 {t b : Bool} {K : AV → AV → AV → AV → AV → AV → AV → EH → AV → Prop} {B : (AV → AV → AV → AV → AV → AV → AV → EH → Prop) → Prop} {h : EH} (hB : t = false → ∀ J : AV → AV → AV → AV → AV → AV → AV → EH → Prop, (∀ x0 x1 x2 x3 x4 x5 h', Ext h h' → J x0 x1 x2 x3 x4 x5 (.bool b) h') → B J) (hK : ∀ x0 x1 x2 x3 x4 x5 v h', Ext h h' → K x0 x1 x2 x3 x4 x5 v h' (.bool (t || b))) :
    ∃ J : AV → AV → AV → AV → AV → AV → AV → EH → Prop, (∀ x0 x1 x2 x3 x4 x5 v h', J x0 x1 x2 x3 x4 x5 v h' → pk (.bool t) (.bool true) v (K x0 x1 x2 x3 x4 x5 v h')) ∧ cg (.bool t) false (B J) (J (.pl undef) (.pl undef) (.pl undef) (.pl undef) (.pl undef) (.pl undef) (.pl undef) h) := by
  refine ⟨fun _ _ _ _ _ _ v h' => Ext h h' ∧ (t = false → v = .bool b), fun x0 x1 x2 x3 x4 x5 v h' j => ?_, ?_⟩
  · cases t with
    | true => rw [pk_true]; exact hK _ _ _ _ _ _ v h' j.1
    | false => obtain ⟨j1, j2⟩ := j; rw [j2 rfl]; rw [pk_false]; have := hK x0 x1 x2 x3 x4 x5 (.bool b) h' j1; exact this
  · rw [cg_bf]
    exact ⟨fun q => hB q _ fun _ _ _ _ _ _ h' e => ⟨e, fun _ => rfl⟩, fun q => ⟨.refl h, fun z => by rw [q] at z; cases z⟩⟩
theorem and_v3 {t b : Bool} {K : AV → AV → AV → EH → AV → Prop} {B : (AV → AV → AV → EH → Prop) → Prop} {h : EH} (hB : t = true → ∀ J : AV → AV → AV → EH → Prop, (∀ x y h', Ext h h' → J x y (.bool b) h') → B J) (hK : ∀ x y v h', Ext h h' → K x y v h' (.bool (t && b))) :
    ∃ J : AV → AV → AV → EH → Prop, (∀ x y v h', J x y v h' → pk (.bool t) v (.bool false) (K x y v h')) ∧ cg (.bool t) true (B J) (J (.pl undef) (.pl undef) (.pl undef) h) := by
  refine ⟨fun _ _ v h' => Ext h h' ∧ (t = true → v = .bool b), fun x y v h' j => ?_, ?_⟩
  · cases t with
    | false => rw [pk_false]; exact hK _ _ v h' j.1
    | true => obtain ⟨j1, j2⟩ := j; rw [j2 rfl]; rw [pk_true]; exact hK x y (.bool b) h' j1
  · rw [cg_bt]
    exact ⟨fun q => hB q _ fun _ _ h' e => ⟨e, fun _ => rfl⟩, fun q => ⟨.refl h, fun z => by rw [q] at z; cases z⟩⟩
theorem and_v0 {t b : Bool} {K : AV → EH → AV → Prop} {B : (AV → EH → Prop) → Prop} {h : EH} (hB : t = true → ∀ J : AV → EH → Prop, (∀ h', Ext h h' → J (.bool b) h') → B J) (hK : ∀ v h', Ext h h' → K v h' (.bool (t && b))) :
    ∃ J : AV → EH → Prop, (∀ v h', J v h' → pk (.bool t) v (.bool false) (K v h')) ∧ cg (.bool t) true (B J) (J (.pl undef) h) := by
  refine ⟨fun v h' => Ext h h' ∧ (t = true → v = .bool b), fun v h' j => ?_, ?_⟩
  · cases t with
    | false => rw [pk_false]; exact hK v h' j.1
    | true => obtain ⟨j1, j2⟩ := j; rw [j2 rfl]; rw [pk_true]; exact hK (.bool b) h' j1
  · rw [cg_bt]
    exact ⟨fun q => hB q _ fun h' e => ⟨e, fun _ => rfl⟩, fun q => ⟨.refl h, fun z => by rw [q] at z; cases z⟩⟩
section
variable {W0 : World} {h : EH} {k : AV → EH → Prop} {s : List UInt8} {b : Nat} {y1 y2 y3 y4 y5 : AV}
theorem fail5 {K : EH → Prop} (g : B5 h b y1 y2 y3 y4 y5) (hk : ∀ h', B5 h' b (.str []) (.int .i64 0) nilA nilA (.int .i64 3) → Out5 b h h' → K h') : st 1 (.ref b 0) (.str []) h fun _ h1 => st 1 (.ref (b + 1) 0) (.int .i64 0) h1 fun _ h2 => st 1 (.ref (b + 1 + 1) 0) nilA h2 fun _ h3 => st 1 (.ref (b + 1 + 1 + 1) 0) nilA h3 fun _ h4 => st 1 (.ref (b + 1 + 1 + 1 + 1) 0) (.int .i64 3) h4 fun _ h5 => K h5 :=
  g.s1 rfl fun h1 g1 o1 => g1.s2 rfl fun h2 g2 o2 => g2.s3 rfl fun h3 g3 o3 => g3.s4 rfl fun h4 g4 o4 => g4.s5 rfl fun h5 g5 o5 => hk _ g5 ((((o1.trans o2).trans o3).trans o4).trans o5)
def Ent.cs (e : Ent) : List AV := [.str e.path, .str e.name, .int .i64 e.kind, .int .i64 e.rank, .bool e.par]
theorem entR_inv {o : Option (List UInt8 × List UInt8 × List UInt8 × Int × Int × Int)} {r : AV} (h : EntR o r) : ∃ a e t, r = .tup [.str a, Ent.av e, .bool t] ∧ (t = true → ∃ b c k rk p, o = some (a, b, c, k, rk, p) ∧ e = ⟨b, c, k, rk, p == 1⟩) ∧ (t = false → o = none) := by
  cases o with
  | none =>
    obtain ⟨a, b, c, k, rk, p, rfl⟩ := h
    exact ⟨a, ⟨b, c, k, rk, p⟩, false, rfl, (fun q => by cases q), fun _ => rfl⟩
  | some x =>
    obtain ⟨a, b, c, k, rk, p⟩ := x
    have : r = .tup [.str a, .agg [.str b, .str c, .int .i64 k, .int .i64 rk, .bool (p == 1)], .bool true] := h
    subst this
    exact ⟨a, ⟨b, c, k, rk, p == 1⟩, true, rfl, fun _ => ⟨b, c, k, rk, p, rfl, rfl⟩, (fun q => by cases q)⟩
theorem st5e {e : Ent} {z1 z2 z3 z4 z5 : AV} (hk : ∀ h', Ext h h' → h'.get h.n = some (.cells e.cs) → h'.n = h.n + 1 → k (.pl undef) h') : st 5 (.ref h.n 0) (Ent.av e) (h.push (.cells [z1, z2, z3, z4, z5])) k := by
  rw [st_ref, get_push_eq rfl, stc_some]
  show (_ ∧ _) ∧ k _ _
  refine ⟨⟨rfl, by simp⟩, hk _ (ext_set (b := h.n) (.push _ _) (Nat.le_refl _)) ?_ (by rw [EH.n_set, EH.n_push])⟩
  exact get_set_eq rfl (by rw [EH.n_push]; omega)
theorem ldn5 {e : Ent} {c : Nat} {K : AV → Prop} (g : h.get c = some (.cells e.cs)) : ldn 5 h (.ref c 0) K = K (Ent.av e) := by
  rw [ldn_ref, g]
  exact propext ⟨fun x => x.2, fun x => ⟨Nat.le_refl _, x⟩⟩
def Inv19 (h0 : EH) (n b : Nat) (o : AObj) (vn : Int) (R : Option (List (List UInt8) × List Ent)) (s' : List UInt8) (hh : EH) : Prop :=
  hh.get n = some o ∧ hh.get b = some (.cells [.str s']) ∧ s'.length ≤ 3000 ∧ EndsNl s' ∧ (∀ i, i < h0.n → hh.get i = h0.get i) ∧ ∃ ns es v25 v26, B5 hh h0.n (.str []) (.int .i64 vn) v25 v26 (.int .i64 0) ∧ App hh 1 (ns.map .str) v25 ∧ App hh 5 (es.map Ent.av) v26 ∧ (∀ t, tok v25 = some t → n < t ∧ tok v26 ≠ some t) ∧ (∀ t, tok v26 = some t → n < t) ∧ ns.length + s'.length ≤ 3000 ∧ es.length + s'.length ≤ 3000 ∧ rdL (spl 10 s').dropLast ns es = R
theorem c19 (ws : WS W0) (hl : s.length ≤ 3000) (hk : ∀ h' r, Ext h h' → ReadR (readS s) r → k r h') : SCalls Tryz.prog W0 19 [.str s] h k := by
  rw [← readP_eq] at hk
  refine W19_ok ?_
  unfold W19
  refine ca_i rfl (cut_ok ws (by omega) ?_)
  obtain ⟨g5, e5⟩ := new5 h (.str []) (.int .i64 0) nilA nilA (.int .i64 0)
  rw [cut_eq]
  have hcl := cutL_len 10 s
  unfold readP at hk
  generalize (cutL 10 s).1 = f at *
  generalize (cutL 10 s).2.1 = r at *
  generalize (cutL 10 s).2.2 = t at *
  refine ca_i rfl (split_ok ws (by omega) ?_)
  have hw : ∀ p ∈ spl 32 f, p.length ≤ f.length := fun p hp => spl_mem hp
  generalize hwe : spl 32 f = ws' at *
  simp only [al_eq, EH.n_push]
  generalize (((((h.push (.cells [.str []])).push (.cells [.int .i64 0])).push (.cells [nilA])).push (.cells [nilA])).push (.cells [.int .i64 0])) = h5 at g5 e5 ⊢
  rw [un_not]
  refine or_v (b := (ws'.length : Int) != 3) (fun q J hJ => ?_) (fun u1 h8 e8 => ?_)
  · try simp only [go_sem, EH.n_push, EH.n_set, List.getElem?_cons_zero, List.getElem?_cons_succ, List.head?_cons, List.drop_succ_cons, List.drop_zero, List.take_succ_cons, List.take_zero, List.length_cons, List.length_nil, List.all_cons, List.all_nil, List.map_cons, List.map_nil, Nat.reduceAdd, Nat.reduceLeDiff, Nat.reduceEqDiff, Nat.reduceSub, Nat.zero_add, Nat.le_refl, Int.toNat_zero, Int.reduceToNat, Int.toNat_natCast, and_self, and_true, true_and, if_true, if_false, ↓reduceIte, Bool.and_true, Bool.and_self, Bool.true_and, Bool.false_eq_true, reduceCtorEq, AV.isSize, beq_self_eq_true, decide_true, decide_false, List.nil_append, forall_const, Bool.not_true, Bool.not_false, imp_self, true_implies, false_implies, List.getD_cons_zero, List.getD_cons_succ, Int.reduceLE, Int.reduceLT, Int.cast_ofNat_Int, bne_self_eq_false, List.length_map]
    exact hJ _ (.refl _)
  refine or_v (b := !(ws'.getD 0 [] == modW)) (fun q J hJ => ?_) (fun u2 h9 e9 => ?_)
  · have h3 : ws'.length = 3 := by
      simp only [Bool.or_eq_false_iff] at q
      have := q.2
      simp at this
      omega
    try simp only [go_sem, EH.n_push, EH.n_set, List.getElem?_cons_zero, List.getElem?_cons_succ, List.head?_cons, List.drop_succ_cons, List.drop_zero, List.take_succ_cons, List.take_zero, List.length_cons, List.length_nil, List.all_cons, List.all_nil, List.map_cons, List.map_nil, Nat.reduceAdd, Nat.reduceLeDiff, Nat.reduceEqDiff, Nat.reduceSub, Nat.zero_add, Nat.le_refl, Int.toNat_zero, Int.reduceToNat, Int.toNat_natCast, and_self, and_true, true_and, if_true, if_false, ↓reduceIte, Bool.and_true, Bool.and_self, Bool.true_and, Bool.false_eq_true, reduceCtorEq, AV.isSize, beq_self_eq_true, decide_true, decide_false, List.nil_append, forall_const, Bool.not_true, Bool.not_false, imp_self, true_implies, false_implies, List.getD_cons_zero, List.getD_cons_succ, Int.reduceLE, Int.reduceLT, Int.cast_ofNat_Int, bne_self_eq_false, List.length_map]
    refine ⟨by omega, ?_⟩
    rw [str_getD ws' 0 (by omega)]
    try simp only [go_sem, EH.n_push, EH.n_set, List.getElem?_cons_zero, List.getElem?_cons_succ, List.head?_cons, List.drop_succ_cons, List.drop_zero, List.take_succ_cons, List.take_zero, List.length_cons, List.length_nil, List.all_cons, List.all_nil, List.map_cons, List.map_nil, Nat.reduceAdd, Nat.reduceLeDiff, Nat.reduceEqDiff, Nat.reduceSub, Nat.zero_add, Nat.le_refl, Int.toNat_zero, Int.reduceToNat, Int.toNat_natCast, and_self, and_true, true_and, if_true, if_false, ↓reduceIte, Bool.and_true, Bool.and_self, Bool.true_and, Bool.false_eq_true, reduceCtorEq, AV.isSize, beq_self_eq_true, decide_true, decide_false, List.nil_append, forall_const, Bool.not_true, Bool.not_false, imp_self, true_implies, false_implies, List.getD_cons_zero, List.getD_cons_succ, Int.reduceLE, Int.reduceLT, Int.cast_ofNat_Int, bne_self_eq_false]
    exact hJ _ (.refl _)
  refine or_v (b := !isNm (ws'.getD 1 [])) (fun q J hJ => ?_) (fun u3 h10 e10 => ?_)
  · have h3 : ws'.length = 3 := by
      simp only [Bool.or_eq_false_iff] at q
      have := q.1.2
      simp at this
      omega
    have := hw (ws'.getD 1 []) (by rw [List.getD_eq_getElem?_getD, List.getElem?_eq_getElem (by omega)]; exact List.getElem_mem _)
    rw [ia_row, show (1 : Int).toNat = 1 from rfl, str_getD ws' 1 (by omega)]
    refine ⟨by rw [List.length_map]; omega, ?_⟩
    rw [ld_eref, List.head?_cons, optP_some]
    refine ca_i rfl (c47 (by omega) fun h11 e11 => ?_)
    try simp only [go_sem, EH.n_push, EH.n_set, List.getElem?_cons_zero, List.getElem?_cons_succ, List.head?_cons, List.drop_succ_cons, List.drop_zero, List.take_succ_cons, List.take_zero, List.length_cons, List.length_nil, List.all_cons, List.all_nil, List.map_cons, List.map_nil, Nat.reduceAdd, Nat.reduceLeDiff, Nat.reduceEqDiff, Nat.reduceSub, Nat.zero_add, Nat.le_refl, Int.toNat_zero, Int.reduceToNat, Int.toNat_natCast, and_self, and_true, true_and, if_true, if_false, ↓reduceIte, Bool.and_true, Bool.and_self, Bool.true_and, Bool.false_eq_true, reduceCtorEq, AV.isSize, beq_self_eq_true, decide_true, decide_false, List.nil_append, forall_const, Bool.not_true, Bool.not_false, imp_self, true_implies, false_implies, List.getD_cons_zero, List.getD_cons_succ, Int.reduceLE, Int.reduceLT, Int.cast_ofNat_Int, bne_self_eq_false]
    exact hJ _ e11
  have E10 := (e8.trans e9).trans e10
  refine cn_i (fun q => ?_) (fun q => ?_)
  · refine fail5 (g5.ext E10) fun h15 g15 o15 => ?_
    refine g15.ret ?_
    refine hk _ _ (o15.ext (Nat.le_refl _) (e5.trans E10)) ?_
    cases t with
    | false => exact tup_fail
    | true =>
      simp only [Bool.true_eq_false, if_false]
      split
      · rw [if_neg]
        · exact tup_fail
        · rintro ⟨rfl, z⟩
          simp [z] at q
      · exact tup_fail
  simp only [Bool.or_eq_false_iff] at q
  obtain ⟨⟨⟨q1, q2⟩, q3⟩, q4⟩ := q
  have ht : t = true := by simpa using q1
  subst ht
  have h3 : ws'.length = 3 := by simp at q2; omega
  refine threeW ws' (fun wa wm wn he => ?_) (fun hne => absurd h3 hne)
  subst he
  have hla := hw wa (by simp)
  have hlm := hw wm (by simp)
  have hln := hw wn (by simp)
  have qa : wa = modW := by simpa using q3
  have qm : isNm wm = true := by simpa using q4
  simp only [Bool.true_eq_false, if_false, qa, qm, and_self, if_true] at hk
  rw [ia_row, show (2 : Int).toNat = 2 from rfl, str_getD _ 2 (by simp)]
  refine ⟨by simp, ?_⟩
  rw [ld_eref, List.head?_cons, optP_some]
  refine ca_i rfl (c48 ws (by simp; omega) fun h16 r16 e16 n16 => ?_)
  obtain ⟨vn, tb, rfl, hnum⟩ := numR_inv n16
  simp only [List.getD_cons_succ, List.getD_cons_zero] at hnum
  rw [hnum] at hk
  simp only [ex_tup, List.getElem?_cons_zero, List.getElem?_cons_succ, optP_some]
  refine (g5.ext (E10.trans e16)).s2 rfl fun h17 g17 o17 => ?_
  have E17 : Ext h h17 := o17.ext (Nat.le_refl _) (e5.trans (E10.trans e16))
  rw [un_not]
  refine or_v4 (b := vn != ver 0 0 r) (fun q J hJ => ?_) (fun x1 x2 x3 x4 h18 e18 => ?_)
  · rw [g17.l2]
    refine ca_i rfl (c49 (by omega) fun h36 e36 => ?_)
    rw [ckP_ld, (g17.ext e36).l2]
    refine ⟨rfl, ?_⟩
    rw [bi_neq]
    exact hJ _ _ _ _ e36
  refine or_v7 (b := !(r == []) && !(List.isSuffixOf [10] r)) (fun q J hJ => ?_) (fun z1 z2 z3 z4 z5 z6 z7 h19 e19 => ?_)
  · rw [bi_neqS]
    refine and_v3 (b := !(List.isSuffixOf [10] r)) (fun q J' hJ' => ?_) (fun y1 y2 y3 h34 e34 => ?_)
    · refine ca_i rfl (hasSuffix_ok ?_)
      rw [un_not]
      exact hJ' _ _ _ (.refl _)
    · exact hJ _ _ _ _ _ _ _ e34
  have G := g17.ext (e18.trans e19)
  have E19 := E17.trans (e18.trans e19)
  refine cn_i (fun q => ?_) (fun q => ?_)
  · refine fail5 G fun h24 g24 o24 => ?_
    refine g24.ret ?_
    refine hk _ _ (o24.ext (Nat.le_refl _) E19) ?_
    cases tb with
    | false => exact tup_fail
    | true =>
      simp only [if_true]
      rw [if_neg]
      · exact tup_fail
      · rintro (⟨rfl, z⟩ | ⟨rfl, z⟩) <;> simp [z] at q
  simp only [Bool.or_eq_false_iff] at q
  obtain ⟨⟨q1, q2⟩, q5⟩ := q
  have htb : tb = true := by simpa using q1
  subst htb
  have hv : vn = ver 0 0 r := by simpa using q2
  have hE : EndsNl r := by
    by_cases z : r = []
    · exact .inl z
    · refine (suf_nl r z).1 ?_
      have : (r == []) = false := by simpa using z
      rw [this] at q5
      simpa using q5
  have hcond : vn = ver 0 0 r ∧ List.isSuffixOf [10] r = true ∨ vn = ver 0 0 r ∧ r = [] := by
    by_cases z : r = []
    · exact .inr ⟨hv, z⟩
    · exact .inl ⟨hv, (suf_nl r z).2 hE⟩
  simp only [if_true] at hk
  rw [if_pos hcond] at hk
  have hGl := G.lt
  refine ca_i rfl (c51 ?_)
  refine rg_i rfl fun o ho => ?_
  simp only [EH.n_push, List.nil_append]
  refine c118 (n := h19.n + 1) (b := h19.n) (s := r) (I := Inv19 h (h19.n + 1) h19.n o vn (rdL (spl 10 r).dropLast [] [])) ?_ (fun s' hh i => ⟨i.2.1, i.2.2.1⟩) ?_ ?_
  · refine ⟨get_push_eq (by rw [EH.n_push]), ?_, by omega, hE, fun i hi => ?_, [], [], nilA, nilA, (G.ext (.push _ _)).ext (.push _ _), .nil _ _, .nil _ _, (fun t e => by cases e), (fun t e => by cases e), by simp; omega, by simp; omega, rfl⟩
    · rw [get_push_ne (by rw [EH.n_push]; omega), get_push_eq rfl]
    · rw [get_push_ne (by rw [EH.n_push]; omega), get_push_ne (by omega), E19.2 i hi]
  · intro s' hh hne I
    obtain ⟨hn, hbx, hl', hE', hfr, ns, es, v25, v26, G1, A25, A26, T25, T26, hns, hes, hr⟩ := I
    obtain ⟨l1, l2, l3, l4⟩ := line_step hne hE'
    rw [l1]
    have hnl := EH.get_lt hn
    have hcl' := cutL_len 10 s'
    rw [l3] at hr
    generalize (cutL 10 s').1 = lin at *
    generalize (cutL 10 s').2.1 = rest at *
    refine WR19_ok (Eq.trans (get_set_ne (h := hh) (i := h19.n + 1) (b := h19.n) (by omega)) (hn.trans (congrArg some ho))) ?_
    unfold WR19
    obtain ⟨ss, ps, LA, LB, ho'⟩ : ∃ ss ps A B, o = .loop false ss ps A B none := ⟨_, _, _, _, ho⟩
    clear ho
    subst ho'
    rw [rb_i (Eq.trans (get_set_ne (h := hh) (i := h19.n + 1) (b := h19.n) (by omega)) hn)]
    simp only [hide_ref]
    obtain ⟨hB, hBe⟩ : ∃ hB, hB = (hh.set h19.n (.cells [.str rest])).set (h19.n + 1) (.loop true ss ps LA LB none) := ⟨_, rfl⟩
    rw [← hBe]
    have Bn : hB.n = hh.n := by rw [hBe, EH.n_set, EH.n_set]
    have Bo : ∀ i, i ≠ h19.n → i ≠ h19.n + 1 → hB.get i = hh.get i := fun i a b => by rw [hBe, get_set_ne b, get_set_ne a]
    have Bb : hB.get h19.n = some (.cells [.str rest]) := by rw [hBe, get_set_ne (by omega), get_set_eq rfl (by omega)]
    have Bl : hB.get (h19.n + 1) = some (.loop true ss ps LA LB none) := by rw [hBe, get_set_eq rfl (by rw [EH.n_set]; omega)]
    clear hBe
    have GB : B5 hB h.n (.str []) (.int .i64 vn) v25 v26 (.int .i64 0) := G1.of fun i _ _ => Bo i (by omega) (by omega)
    have AB25 : App hB 1 (ns.map .str) v25 := A25.keep fun t e => Bo t (by have := (T25 t e).1; omega) (by have := (T25 t e).1; omega)
    have AB26 : App hB 5 (es.map Ent.av) v26 := A26.keep fun t e => Bo t (by have := T26 t e; omega) (by have := T26 t e; omega)
    have FB : ∀ i, i < h.n → hB.get i = h.get i := fun i hi => by rw [Bo i (by omega) (by omega), hfr i hi]
    refine ca_i rfl (trimSuffix_ok ?_)
    rw [trim_nl]
    refine ca_i rfl (c52 ws (by omega) fun h9 r9 e9 n9 => ?_)
    obtain ⟨xa, xe, xt, rfl, hx1, hx2⟩ := entR_inv n9
    simp only [ex_tup, List.getElem?_cons_zero, List.getElem?_cons_succ, optP_some, al_eq]
    refine st5e fun hC eC gC nC => ?_
    have ec := e9.trans eC
    have GC := GB.ext ec
    have AC25 := AB25.ext ec
    have AC26 := AB26.ext ec
    have hnB : hB.n ≤ h9.n := e9.1
    rw [un_not]
    refine or_v (b := stale ns xa) (fun q J hJ => ?_) (fun u1 h6 e6 => ?_)
    · rw [GC.l3, AC25.slc.ln, bi_gtr]
      refine and_v0 (b := !Op.bytesLess (ns.getD (ns.length - 1) []) xa) (fun q J6 hJ6 => ?_) (fun u2 h17 e17 => ?_)
      · simp only [decide_eq_true_eq, List.length_map] at q
        rw [GC.l3, GC.l3, AC25.slc.ln, bi_sub, List.length_map, w64 (by omega) (by omega), AC25.slc.ia]
        refine ⟨by rw [List.length_map]; omega, ?_⟩
        rw [show ((ns.length : Int) - 1).toNat = ns.length - 1 by omega, str_getD ns _ (by omega), ld_eref, List.head?_cons, optP_some, bi_geqS]
        exact hJ6 _ (.refl _)
      · rw [List.length_map]
        exact hJ _ e17
    have E6 := ec.trans e6
    have G6 := GC.ext e6
    have B6 := E6.get Bb
    have L6 := E6.get Bl
    have N6 : hh.n ≤ h6.n := by have := E6.1; omega
    refine cn_i (fun q => ?_) (fun q => ?_)
    · refine fail5 G6 fun h11 g11 o11 => ?_
      have L11 : h11.get (h19.n + 1) = some (.loop true ss ps LA LB none) := by rw [o11.2 _ (.inr (by omega))]; exact L6
      rw [rr_i L11]
      refine .inr ⟨rfl, ?_⟩
      show outW _ _ _ _
      rw [out_r (get_set_eq rfl (EH.get_lt L11))]
      have G12 : B5 ((h11.set (h19.n + 1) (.loop false ss ps LA LB (some .ret))).set (h19.n + 1) .dead) h.n (.str []) (.int .i64 0) nilA nilA (.int .i64 3) := g11.of fun i _ _ => by rw [get_set_ne (by omega), get_set_ne (by omega)]
      refine G12.ret ?_
      refine hk _ _ ⟨?_, fun i hi => ?_⟩ ?_
      · rw [EH.n_set, EH.n_set, o11.1]; have := E19.1; omega
      · rw [get_set_ne (by omega), get_set_ne (by omega), o11.2 i (.inl hi), E6.2 i (by omega), FB i hi]
      · have : rdL (lin :: (spl 10 rest).dropLast) ns es = none := by
          simp only [rdL]
          cases xt with
          | false => rw [hx2 rfl]
          | true =>
            obtain ⟨b', c', k', rk', p', hx, rfl⟩ := hx1 rfl
            rw [hx]
            simp only [Bool.not_true, Bool.false_or] at q
            simp only [q, if_true]
        rw [this] at hr
        rw [← hr]
        exact tup_fail
    · simp only [Bool.or_eq_false_iff] at q
      have hxt : xt = true := by simpa using q.1
      obtain ⟨b', c', k', rk', p', hx, hxe⟩ := hx1 hxt
      have hst := q.2
      simp only [rdL, hx] at hr
      rw [if_neg (by rw [hst]; simp)] at hr
      have g6 := e6.get gC
      have A625 := AC25.ext e6
      have A626 := AC26.ext e6
      have t25 : ∀ t, tok v25 = some t → t < hh.n := fun t e => A25.tok_lt e
      have t26 : ∀ t, tok v26 = some t → t < hh.n := fun t e => A26.tok_lt e
      rw [G6.l3, bs_eq]
      refine ⟨rfl, ?_⟩
      rw [G6.l4, ldn5 g6, bs_eq]
      refine ⟨rfl, ?_⟩
      refine app1 A625 (by rw [List.length_map]; unfold roomMax; omega) fun v45 h15 a45 k45 n15 f15 => ?_
      have g15 : h15.get h9.n = some (.cells xe.cs) := by
        rw [f15 _ (EH.get_lt g6) (fun e => by have := t25 _ e; omega)]; exact g6
      have G15 : B5 h15 h.n (.str []) (.int .i64 vn) v25 v26 (.int .i64 0) := G6.of fun i a b => f15 i (by omega) (fun e => by have := (T25 _ e).1; omega)
      rw [ckP_ldn, ldn5 g15, ckP_ld, G15.l4]
      refine ⟨rfl, rfl, ?_⟩
      have A1526 : App h15 5 (es.map Ent.av) v26 := A626.keep fun t e => f15 t (by have := t26 t e; omega) (fun e' => (T25 t e').2 e)
      refine app1 A1526 (by rw [List.length_map]; unfold roomMax; omega) fun v46 h16 a46 k46 n16 f16 => ?_
      have tn26 : tok v26 ≠ some h6.n := fun e => by have := t26 _ e; omega
      have G16 : B5 h16 h.n (.str []) (.int .i64 vn) v25 v26 (.int .i64 0) := G15.of fun i a b => f16 i (by omega) (fun e => by have := T26 _ e; omega)
      refine G16.s3 a45.slc.cells fun h17 g17 o17 => ?_
      refine g17.s4 a46.slc.cells fun h18 g18 o18 => ?_
      have O := o17.trans o18
      have fr : ∀ i, (i < h.n ∨ h.n + 5 ≤ i) → i < h6.n → tok v25 ≠ some i → tok v26 ≠ some i → h18.get i = h6.get i := fun i a b c d => by
        rw [O.2 i a, f16 i (by omega) d, f15 i b c]
      have L18 : h18.get (h19.n + 1) = some (.loop true ss ps LA LB none) := by
        rw [fr _ (.inr (by omega)) (by omega) (fun e => by have := (T25 _ e).1; omega) (fun e => by have := T26 _ e; omega)]; exact L6
      rw [rn_i L18]
      refine .inl ⟨rfl, get_set_eq rfl (EH.get_lt L18), ?_, by show rest.length ≤ 3000; omega, l2, fun i hi => ?_, ns ++ [xa], es ++ [xe], v45, v46, g18.of fun i _ _ => get_set_ne (by omega), ?_, ?_, fun t e => ?_, fun t e => ?_, ?_, ?_, ?_⟩
      · rw [get_set_ne (by omega), fr _ (.inr (by omega)) (by omega) (fun e => by have := (T25 _ e).1; omega) (fun e => by have := T26 _ e; omega)]
        exact B6
      · rw [get_set_ne (by omega), fr i (.inl hi) (by omega) (fun e => by have := (T25 _ e).1; omega) (fun e => by have := T26 _ e; omega), E6.2 i (by omega), FB i hi]
      · rw [List.map_append]
        exact a45.keep fun t e => by
          rw [k45] at e; cases e
          rw [get_set_ne (by omega), O.2 _ (.inr (by omega)), f16 _ (by omega) tn26]
      · rw [List.map_append]
        exact a46.keep fun t e => by
          rw [k46] at e; cases e
          rw [get_set_ne (by omega), O.2 _ (.inr (by omega))]
      · rw [k45] at e; cases e
        refine ⟨by omega, fun e => ?_⟩
        rw [k46] at e
        have := Option.some.inj e
        omega
      · rw [k46] at e; cases e
        omega
      · show (ns ++ [xa]).length + rest.length ≤ 3000
        simp; omega
      · show (es ++ [xe]).length + rest.length ≤ 3000
        simp; omega
      · rw [hxe]; exact hr
  · intro hh I
    obtain ⟨hn, hbx, _, _, hfr, ns, es, v25, v26, G1, A25, A26, _, _, _, _, hr⟩ := I
    have hnl := EH.get_lt hn
    show outW _ _ _ _
    rw [out_n (hn.trans (congrArg some ho))]
    have G2 : B5 (hh.set (h19.n + 1) .dead) h.n (.str []) (.int .i64 vn) v25 v26 (.int .i64 0) := G1.of fun i _ _ => get_set_ne (by omega)
    rw [ia_row, show (1 : Int).toNat = 1 from rfl, str_getD _ 1 (by simp)]
    refine ⟨by simp, ?_⟩
    rw [ld_eref, List.head?_cons, optP_some, G2.l2, G2.l3, G2.l4]
    refine G2.s1 rfl fun h29 g29 o29 => ?_
    rw [ckP_ld, g29.l4, ckP_ld, g29.l3, ckP_ld, g29.l2]
    refine ⟨rfl, rfl, rfl, ?_⟩
    refine g29.s2 rfl fun h30 g30 o30 => ?_
    rw [ckP_ld, g30.l4, ckP_ld, g30.l3]
    refine ⟨rfl, rfl, ?_⟩
    refine g30.s3 A25.slc.cells fun h31 g31 o31 => ?_
    rw [ckP_ld, g31.l4]
    refine ⟨rfl, ?_⟩
    refine g31.s4 A26.slc.cells fun h32 g32 o32 => ?_
    refine g32.s5 rfl fun h33 g33 o33 => ?_
    refine g33.ret ?_
    have O := (((o29.trans o30).trans o31).trans o32).trans o33
    refine hk _ _ ⟨?_, fun i hi => ?_⟩ ?_
    · rw [O.1, EH.n_set]; have := E19.1; omega
    · rw [O.2 i (.inl hi), get_set_ne (by omega), hfr i hi]
    · rw [← hr]
      exact ⟨v25, v26, rfl, A25.slc, A26.slc⟩
end
end Go.Proofs.YtnpkhnlcpeebcaaGreatDoor
/- The seat's table: which slots make boxes, and the table with records. -/
namespace Go.Proofs.YtnpkhnlcpeebcaaGreatDoor
open Go Go.Qa

/-- The copies of slices are boxes. -/
noncomputable def hsT (_ : Nat) : List Nat := []
theorem join_enters : Enters Tryz.prog 91 := Enters.of Tryz.func91 (by kernel_rfl) (by kernel_rfl)
/-- What is known of functions otherwise than by their code. -/
noncomputable def primT (M : List (Nat × List (List AV × AV))) (f : Nat) : Option (List AV → EH → Option (AV × EH)) := sel (Nat.beq f 91) (some joinP) (memoT M f)
noncomputable def FT (M : List (Nat × List (List AV × AV))) : Nat → Option EEnt := tableOf Tryz.prog hsT (primT M)
def Known (M : List (Nat × List (List AV × AV))) : Prop := ∀ m ∈ M, ∀ p ∈ m.2, Knows Tryz.prog m.1 p.1 p.2
theorem FT_ok {M : List (Nat × List (List AV × AV))} (h : Known M) (W : World) : FTOk Tryz.prog W (FT M) := by
  refine tableOf_ok fun f p hp => ?_
  unfold primT at hp
  rw [sel_eq] at hp
  split at hp
  · rename_i q
    cases hp
    rw [Nat.beq_eq] at q
    subst q
    exact joinP_ok join_enters Tryz.strings_Join_none fun bk o c xs sep w h1 h2 h3 h4 h5 => Tryz.strings_Join bk o c xs sep w h1 h2 h3 h4 h5
  · exact memoT_ok h f p hp
theorem known_nil : Known [] := fun m hm => by cases hm
theorem known_cons {f : Nat} {es : List (List AV × AV)} {M : List (Nat × List (List AV × AV))} (h : ∀ p ∈ es, Knows Tryz.prog f p.1 p.2) (k : Known M) : Known ((f, es) :: M) := fun m hm => by
  rcases List.mem_cons.1 hm with rfl | q
  · exact h
  · exact k m q
theorem knows_nil {f : Nat} : ∀ p ∈ ([] : List (List AV × AV)), Knows Tryz.prog f p.1 p.2 := fun p hp => by cases hp
theorem knows_cons {f : Nat} {a : List AV} {r : AV} {es : List (List AV × AV)} (h : Knows Tryz.prog f a r) (k : ∀ p ∈ es, Knows Tryz.prog f p.1 p.2) : ∀ p ∈ (a, r) :: es, Knows Tryz.prog f p.1 p.2 := fun p hp => by
  rcases List.mem_cons.1 hp with rfl | q
  · exact h
  · exact k p q
noncomputable def run (M : List (Nat × List (List AV × AV))) (f : Nat) (args : List AV) (lit : AV) : Bool := memoRun Tryz.prog (FT M) 100000 f args lit
theorem run_knows {M : List (Nat × List (List AV × AV))} (h : Known M) {f : Nat} {args : List AV} {lit : AV} (e : run M f args lit = true) : Knows Tryz.prog f args lit := memo_knows (FT_ok h) e
noncomputable def call (M : List (Nat × List (List AV × AV))) (f : Nat) (args : List AV) : Option (AV × EH) := goOf Tryz.prog (FT M) (ae Tryz.prog (FT M) 100000) true f args ⟨.e, 0⟩
end Go.Proofs.YtnpkhnlcpeebcaaGreatDoor
/- The records of the calls of trees: their arguments and answers. -/
namespace Go.Proofs.YtnpkhnlcpeebcaaGreatDoor
open Go Go.Qa

def tx1 : List UInt8 := [109, 111, 100, 117, 108, 101, 32, 109]
def tx2 : List UInt8 := [105, 110, 116, 101, 103, 101, 114, 32, 58, 58, 32, 97]
def tx3 : List UInt8 := [101, 110, 100]
def tx4 : List UInt8 := [112, 114, 111, 103, 114, 97, 109, 32, 112]
def tx5 : List UInt8 := [117, 115, 101, 32, 109, 44, 32, 111, 110, 108, 121, 58, 32, 98, 32, 61, 62, 32, 97]
def tx6 : List UInt8 := [101, 110, 100]
def tx : List UInt8 := [109, 111, 100, 117, 108, 101, 32, 109, 10, 105, 110, 116, 101, 103, 101, 114, 32, 58, 58, 32, 97, 10, 101, 110, 100, 10, 112, 114, 111, 103, 114, 97, 109, 32, 112, 10, 117, 115, 101, 32, 109, 44, 32, 111, 110, 108, 121, 58, 32, 98, 32, 61, 62, 32, 97, 10, 101, 110, 100, 10]
def sc1 : AV := .tup [.row none false 2 [.agg [.str [110, 97, 109, 101], .str [109, 111, 100, 117, 108, 101]], .agg [.str [110, 97, 109, 101], .str [109]]], .int .i64 0, .int .i64 0]
def sc2 : AV := .tup [.row none false 2 [.agg [.str [110, 97, 109, 101], .str [105, 110, 116, 101, 103, 101, 114]], .agg [.str [111, 112], .str [58, 58]], .agg [.str [110, 97, 109, 101], .str [97]]], .int .i64 0, .int .i64 0]
def sc3 : AV := .tup [.row none false 2 [.agg [.str [110, 97, 109, 101], .str [101, 110, 100]]], .int .i64 0, .int .i64 0]
def sc4 : AV := .tup [.row none false 2 [.agg [.str [110, 97, 109, 101], .str [112, 114, 111, 103, 114, 97, 109]], .agg [.str [110, 97, 109, 101], .str [112]]], .int .i64 0, .int .i64 0]
def sc5 : AV := .tup [.row none false 2 [.agg [.str [110, 97, 109, 101], .str [117, 115, 101]], .agg [.str [110, 97, 109, 101], .str [109]], .agg [.str [111, 112], .str [44]], .agg [.str [110, 97, 109, 101], .str [111, 110, 108, 121]], .agg [.str [111, 112], .str [58]], .agg [.str [110, 97, 109, 101], .str [98]], .agg [.str [111, 112], .str [61, 62]], .agg [.str [110, 97, 109, 101], .str [97]]], .int .i64 0, .int .i64 0]
def it1 : AV := .bool true
def it2 : AV := .bool true
def it3 : AV := .bool true
def it4 : AV := .bool true
def it5 : AV := .bool true
def mIT : Nat × List (List AV × AV) := (204, [([.str tx1], it1), ([.str tx2], it2), ([.str tx3], it3), ([.str tx4], it4), ([.str tx5], it5)])
def mSC : Nat × List (List AV × AV) := (265, [([.str tx1], sc1), ([.str tx2], sc2), ([.str tx3], sc3), ([.str tx4], sc4), ([.str tx5], sc5)])
def nw : AV := .tup [.row none false 3 [.agg [.int .i64 0, .str [109, 111, 100, 117, 108, 101, 32, 109], .int .i64 1], .agg [.int .i64 0, .str [105, 110, 116, 101, 103, 101, 114, 32, 58, 58, 32, 97], .int .i64 2], .agg [.int .i64 0, .str [101, 110, 100], .int .i64 3], .agg [.int .i64 0, .str [112, 114, 111, 103, 114, 97, 109, 32, 112], .int .i64 4], .agg [.int .i64 0, .str [117, 115, 101, 32, 109, 44, 32, 111, 110, 108, 121, 58, 32, 98, 32, 61, 62, 32, 97], .int .i64 5], .agg [.int .i64 0, .str [101, 110, 100], .int .i64 6]], .int .i64 0, .int .i64 0]
def nwr : AV := .row none false 3 [.agg [.int .i64 0, .str [109, 111, 100, 117, 108, 101, 32, 109], .int .i64 1], .agg [.int .i64 0, .str [105, 110, 116, 101, 103, 101, 114, 32, 58, 58, 32, 97], .int .i64 2], .agg [.int .i64 0, .str [101, 110, 100], .int .i64 3], .agg [.int .i64 0, .str [112, 114, 111, 103, 114, 97, 109, 32, 112], .int .i64 4], .agg [.int .i64 0, .str [117, 115, 101, 32, 109, 44, 32, 111, 110, 108, 121, 58, 32, 98, 32, 61, 62, 32, 97], .int .i64 5], .agg [.int .i64 0, .str [101, 110, 100], .int .i64 6]]
def pr : AV := .tup [.agg [.row none false 9 [.agg [.str [109, 111, 100, 117, 108, 101], .str [109], .int .i64 1, .pl (.slice none 0 0), .pl (.slice none 0 0), .bool false, .row none false 5 [.agg [.int .i64 1, .str [97], .bool false, .pl (.slice none 0 0), .pl (.slice none 0 0)]], .pl (.slice none 0 0), .pl (.slice none 0 0)], .agg [.str [112, 114, 111, 103, 114, 97, 109], .str [112], .int .i64 4, .pl (.slice none 0 0), .row none false 3 [.agg [.str [109], .bool true, .row none false 2 [.agg [.str [98], .str [97]]]]], .bool false, .pl (.slice none 0 0), .pl (.slice none 0 0), .pl (.slice none 0 0)]]], .int .i64 0, .int .i64 0]
def tre : AV := .agg [.row none false 9 [.agg [.str [109, 111, 100, 117, 108, 101], .str [109], .int .i64 1, .pl (.slice none 0 0), .pl (.slice none 0 0), .bool false, .row none false 5 [.agg [.int .i64 1, .str [97], .bool false, .pl (.slice none 0 0), .pl (.slice none 0 0)]], .pl (.slice none 0 0), .pl (.slice none 0 0)], .agg [.str [112, 114, 111, 103, 114, 97, 109], .str [112], .int .i64 4, .pl (.slice none 0 0), .row none false 3 [.agg [.str [109], .bool true, .row none false 2 [.agg [.str [98], .str [97]]]]], .bool false, .pl (.slice none 0 0), .pl (.slice none 0 0), .pl (.slice none 0 0)]]]
def vl : AV := .bool true
def mNW : Nat × List (List AV × AV) := (94, [([.str tx], nw)])
def mPR : Nat × List (List AV × AV) := (96, [([nwr], pr)])
def mVL : Nat × List (List AV × AV) := (39, [([tre], vl)])
def fi1 : AV := .tup [.agg [.str [109], .str [97], .int .i64 1, .int .i64 0, .bool false], .int .i64 0]
def fi2 : AV := .tup [.agg [.str [112], .str [97], .int .i64 3, .int .i64 0, .bool false], .int .i64 0]
def mFI : Nat × List (List AV × AV) := (28, [([tre, .str [112], .str [98]], fi1), ([tre, .str [112], .str [97]], fi2)])
def aw : AV := .bool true
end Go.Proofs.YtnpkhnlcpeebcaaGreatDoor
