/- Contracts: the lines of entities, as the program and the document read them. -/
import Derived.Test.YtnpkhnlcpeebcaaGreatDoorQs11
import Derived.Test.YtnpkhnlcpeebcaaGreatDoorQs10
set_option linter.all false
set_option maxRecDepth 100000
namespace Go.Proofs.YtnpkhnlcpeebcaaGreatDoor
open Go Go.Qa Go.Proofs

def ent6 (a b c : List UInt8) (x y z : Option Int) : Option (List UInt8 × List UInt8 × List UInt8 × Int × Int × Int) := match x, y, z with
  | some k, some r, some p => some (a, b, c, k, r, p)
  | _, _, _ => none
/-- The entity of a line. -/
def entS (l : List UInt8) : Option (List UInt8 × List UInt8 × List UInt8 × Int × Int × Int) :=
  match spl 32 l with
  | [a, b, c, d, e, f] => if (isNm a && pathS b && isNm c) = true then ent6 a b c (numS d 4) (numS e 3) (numS f 1) else none
  | _ => none
def EntR (o : Option (List UInt8 × List UInt8 × List UInt8 × Int × Int × Int)) (r : AV) : Prop := match o with
  | some (a, b, c, k, rk, p) => r = .tup [.str a, .agg [.str b, .str c, .int .i64 k, .int .i64 rk, .bool (p == 1)], .bool true]
  | none => ∃ a b c k rk p, r = .tup [.str a, .agg [.str b, .str c, .int .i64 k, .int .i64 rk, .bool p], .bool false]
theorem sixW {α : Type} {G : Prop} (l : List α) (h6 : ∀ a b c d e f, l = [a, b, c, d, e, f] → G) (hn : l.length ≠ 6 → G) : G := by
  match l, h6, hn with
  | [a, b, c, d, e, f], h6, _ => exact h6 a b c d e f rfl
  | [], _, hn => exact hn (by simp)
  | [_], _, hn => exact hn (by simp)
  | [_, _], _, hn => exact hn (by simp)
  | [_, _, _], _, hn => exact hn (by simp)
  | [_, _, _, _], _, hn => exact hn (by simp)
  | [_, _, _, _, _], _, hn => exact hn (by simp)
  | _ :: _ :: _ :: _ :: _ :: _ :: _ :: _, _, hn => exact hn (by simp)
theorem numR_inv {o : Option Int} {r : AV} (h : NumR o r) : ∃ n t, r = .tup [.int .i64 n, .bool t] ∧ o = if t = true then some n else none := by
  cases o with
  | some n => exact ⟨n, true, h, rfl⟩
  | none => obtain ⟨n, h⟩ := h; exact ⟨n, false, h, rfl⟩
theorem ent_fin {a b c : List UInt8} {o4 o3 o1 : Option Int} {n4 n3 n1 : Int} {t4 t3 t1 : Bool} (h4 : o4 = if t4 = true then some n4 else none) (h3 : o3 = if t3 = true then some n3 else none) (h1 : o1 = if t1 = true then some n1 else none) :
    EntR (ent6 a b c o4 o3 o1) (.tup [.str a, .agg [.str b, .str c, .int .i64 n4, .int .i64 n3, .bool (n1 == 1)], .bool (t4 && t3 && t1)]) := by
  subst h4 h3 h1
  cases t4 <;> cases t3 <;> cases t1 <;> first | rfl | exact ⟨_, _, _, _, _, _, rfl⟩
/-- A box of one's own is written. -/
theorem ext_set {h h' : EH} (e : Ext h h') {o : AObj} {b : Nat} (hb : h.n ≤ b) : Ext h (h'.set b o) :=
  ⟨by rw [EH.n_set]; exact e.1, fun i hi => by rw [get_set_ne (by omega)]; exact e.2 i hi⟩
section
variable {W0 : World} {h : EH} {k : AV → EH → Prop} {c : Int} {s : List UInt8} {m : Int}
theorem c52 (ws : WS W0) (hl : s.length ≤ 100000) (hk : ∀ h' r, Ext h h' → EntR (entS s) r → k r h') : SCalls Tryz.prog W0 52 [.str s] h k := by
  refine W52_ok ?_
  unfold W52
  have hs := spl_len 32 s
  have hm : ∀ p ∈ spl 32 s, p.length ≤ s.length := fun p hp => spl_mem hp
  refine sixW (spl 32 s) (fun a b c d e f he => ?_) (fun hne => ?_)
  · rw [he] at hm
    have ha := hm a (by simp)
    have hb := hm b (by simp)
    have hc := hm c (by simp)
    have hd := hm d (by simp)
    have hee := hm e (by simp)
    have hf := hm f (by simp)
    have en := Ext.push h (.cells [.str [], .str [], .int .i64 0, .int .i64 0, .bool false])
    try simp only [go_sem, EH.n_push, EH.n_set, List.getElem?_cons_zero, List.getElem?_cons_succ, List.head?_cons, List.drop_succ_cons, List.drop_zero, List.take_succ_cons, List.take_zero, List.length_cons, List.length_nil, List.all_cons, List.all_nil, List.map_cons, List.map_nil, Nat.reduceAdd, Nat.reduceLeDiff, Nat.reduceEqDiff, Nat.reduceSub, Nat.zero_add, Nat.le_refl, Int.toNat_zero, Int.reduceToNat, Int.toNat_natCast, and_self, and_true, true_and, if_true, if_false, ↓reduceIte, Bool.and_true, Bool.and_self, Bool.true_and, Bool.false_eq_true, reduceCtorEq, AV.isSize, beq_self_eq_true, decide_true, decide_false, List.nil_append, forall_const, Bool.not_true, Bool.not_false, imp_self, true_implies, false_implies, List.getD_cons_zero, List.getD_cons_succ, Int.reduceLE, Int.reduceLT, Int.cast_ofNat_Int, bne_self_eq_false]
    refine ca_i rfl (split_ok ws (by omega) ?_)
    rw [he]
    try simp only [go_sem, EH.n_push, EH.n_set, List.getElem?_cons_zero, List.getElem?_cons_succ, List.head?_cons, List.drop_succ_cons, List.drop_zero, List.take_succ_cons, List.take_zero, List.length_cons, List.length_nil, List.all_cons, List.all_nil, List.map_cons, List.map_nil, Nat.reduceAdd, Nat.reduceLeDiff, Nat.reduceEqDiff, Nat.reduceSub, Nat.zero_add, Nat.le_refl, Int.toNat_zero, Int.reduceToNat, Int.toNat_natCast, and_self, and_true, true_and, if_true, if_false, ↓reduceIte, Bool.and_true, Bool.and_self, Bool.true_and, Bool.false_eq_true, reduceCtorEq, AV.isSize, beq_self_eq_true, decide_true, decide_false, List.nil_append, forall_const, Bool.not_true, Bool.not_false, imp_self, true_implies, false_implies, List.getD_cons_zero, List.getD_cons_succ, Int.reduceLE, Int.reduceLT, Int.cast_ofNat_Int, bne_self_eq_false]
    refine join_i (x := AV.bool (!isNm a)) (h := h.push (.cells [.str [], .str [], .int .i64 0, .int .i64 0, .bool false])) (fun J hJ => ?_) (fun h1 e1 => ?_)
    · refine ca_i rfl (c47 (by omega) fun h2 e2 => ?_)
      try simp only [go_sem, EH.n_push, EH.n_set, List.getElem?_cons_zero, List.getElem?_cons_succ, List.head?_cons, List.drop_succ_cons, List.drop_zero, List.take_succ_cons, List.take_zero, List.length_cons, List.length_nil, List.all_cons, List.all_nil, List.map_cons, List.map_nil, Nat.reduceAdd, Nat.reduceLeDiff, Nat.reduceEqDiff, Nat.reduceSub, Nat.zero_add, Nat.le_refl, Int.toNat_zero, Int.reduceToNat, Int.toNat_natCast, and_self, and_true, true_and, if_true, if_false, ↓reduceIte, Bool.and_true, Bool.and_self, Bool.true_and, Bool.false_eq_true, reduceCtorEq, AV.isSize, beq_self_eq_true, decide_true, decide_false, List.nil_append, forall_const, Bool.not_true, Bool.not_false, imp_self, true_implies, false_implies, List.getD_cons_zero, List.getD_cons_succ, Int.reduceLE, Int.reduceLT, Int.cast_ofNat_Int, bne_self_eq_false]
      exact hJ _ e2
    · refine or_i (b := ?_) (fun q J hJ => ?_) (fun h2 e2 => ?_); rotate_left
      · refine ca_i rfl (c120 ws (by omega) fun h3 e3 => ?_)
        try simp only [go_sem, EH.n_push, EH.n_set, List.getElem?_cons_zero, List.getElem?_cons_succ, List.head?_cons, List.drop_succ_cons, List.drop_zero, List.take_succ_cons, List.take_zero, List.length_cons, List.length_nil, List.all_cons, List.all_nil, List.map_cons, List.map_nil, Nat.reduceAdd, Nat.reduceLeDiff, Nat.reduceEqDiff, Nat.reduceSub, Nat.zero_add, Nat.le_refl, Int.toNat_zero, Int.reduceToNat, Int.toNat_natCast, and_self, and_true, true_and, if_true, if_false, ↓reduceIte, Bool.and_true, Bool.and_self, Bool.true_and, Bool.false_eq_true, reduceCtorEq, AV.isSize, beq_self_eq_true, decide_true, decide_false, List.nil_append, forall_const, Bool.not_true, Bool.not_false, imp_self, true_implies, false_implies, List.getD_cons_zero, List.getD_cons_succ, Int.reduceLE, Int.reduceLT, Int.cast_ofNat_Int, bne_self_eq_false]
        exact hJ _ e3
      · refine or_i (b := ?_) (fun q J hJ => ?_) (fun h3 e3 => ?_); rotate_left
        · refine ca_i rfl (c47 (by omega) fun h4 e4 => ?_)
          try simp only [go_sem, EH.n_push, EH.n_set, List.getElem?_cons_zero, List.getElem?_cons_succ, List.head?_cons, List.drop_succ_cons, List.drop_zero, List.take_succ_cons, List.take_zero, List.length_cons, List.length_nil, List.all_cons, List.all_nil, List.map_cons, List.map_nil, Nat.reduceAdd, Nat.reduceLeDiff, Nat.reduceEqDiff, Nat.reduceSub, Nat.zero_add, Nat.le_refl, Int.toNat_zero, Int.reduceToNat, Int.toNat_natCast, and_self, and_true, true_and, if_true, if_false, ↓reduceIte, Bool.and_true, Bool.and_self, Bool.true_and, Bool.false_eq_true, reduceCtorEq, AV.isSize, beq_self_eq_true, decide_true, decide_false, List.nil_append, forall_const, Bool.not_true, Bool.not_false, imp_self, true_implies, false_implies, List.getD_cons_zero, List.getD_cons_succ, Int.reduceLE, Int.reduceLT, Int.cast_ofNat_Int, bne_self_eq_false]
          exact hJ _ e4
        · have e4 := ((en.trans e1).trans e2).trans e3
          have hg : h3.get h.n = some (.cells [.str [], .str [], .int .i64 0, .int .i64 0, .bool false]) := ((e1.trans e2).trans e3).get (get_push_eq rfl)
          have hn3 : h.n < h3.n := EH.get_lt hg
          try simp only [go_sem, EH.n_push, EH.n_set, List.getElem?_cons_zero, List.getElem?_cons_succ, List.head?_cons, List.drop_succ_cons, List.drop_zero, List.take_succ_cons, List.take_zero, List.length_cons, List.length_nil, List.all_cons, List.all_nil, List.map_cons, List.map_nil, Nat.reduceAdd, Nat.reduceLeDiff, Nat.reduceEqDiff, Nat.reduceSub, Nat.zero_add, Nat.le_refl, Int.toNat_zero, Int.reduceToNat, Int.toNat_natCast, and_self, and_true, true_and, if_true, if_false, ↓reduceIte, Bool.and_true, Bool.and_self, Bool.true_and, Bool.false_eq_true, reduceCtorEq, AV.isSize, beq_self_eq_true, decide_true, decide_false, List.nil_append, forall_const, Bool.not_true, Bool.not_false, imp_self, true_implies, false_implies, List.getD_cons_zero, List.getD_cons_succ, Int.reduceLE, Int.reduceLT, Int.cast_ofNat_Int, bne_self_eq_false]
          refine ⟨fun q => ?_, fun q => ?_⟩
          · try simp only [go_sem, EH.n_push, EH.n_set, List.getElem?_cons_zero, List.getElem?_cons_succ, List.head?_cons, List.drop_succ_cons, List.drop_zero, List.take_succ_cons, List.take_zero, List.length_cons, List.length_nil, List.all_cons, List.all_nil, List.map_cons, List.map_nil, Nat.reduceAdd, Nat.reduceLeDiff, Nat.reduceEqDiff, Nat.reduceSub, Nat.zero_add, Nat.le_refl, Int.toNat_zero, Int.reduceToNat, Int.toNat_natCast, and_self, and_true, true_and, if_true, if_false, ↓reduceIte, Bool.and_true, Bool.and_self, Bool.true_and, Bool.false_eq_true, reduceCtorEq, AV.isSize, beq_self_eq_true, decide_true, decide_false, List.nil_append, forall_const, Bool.not_true, Bool.not_false, imp_self, true_implies, false_implies, List.getD_cons_zero, List.getD_cons_succ, Int.reduceLE, Int.reduceLT, Int.cast_ofNat_Int, bne_self_eq_false, hg]
            rw [get_set_eq rfl (by omega)]
            try simp only [go_sem, EH.n_push, EH.n_set, List.getElem?_cons_zero, List.getElem?_cons_succ, List.head?_cons, List.drop_succ_cons, List.drop_zero, List.take_succ_cons, List.take_zero, List.length_cons, List.length_nil, List.all_cons, List.all_nil, List.map_cons, List.map_nil, Nat.reduceAdd, Nat.reduceLeDiff, Nat.reduceEqDiff, Nat.reduceSub, Nat.zero_add, Nat.le_refl, Int.toNat_zero, Int.reduceToNat, Int.toNat_natCast, and_self, and_true, true_and, if_true, if_false, ↓reduceIte, Bool.and_true, Bool.and_self, Bool.true_and, Bool.false_eq_true, reduceCtorEq, AV.isSize, beq_self_eq_true, decide_true, decide_false, List.nil_append, forall_const, Bool.not_true, Bool.not_false, imp_self, true_implies, false_implies, List.getD_cons_zero, List.getD_cons_succ, Int.reduceLE, Int.reduceLT, Int.cast_ofNat_Int, bne_self_eq_false]
            have hx : entS s = none := by
              unfold entS
              rw [he]
              simp only
              rw [if_neg]
              intro z
              simp only [Bool.and_eq_true] at z
              rw [z.1.1, z.1.2, z.2] at q
              simp at q
            refine hk _ _ (ext_set (b := h.n) e4 (Nat.le_refl _)) ?_
            rw [hx]
            exact ⟨[], [], [], 0, 0, false, rfl⟩
          · have z : (isNm a && pathS b && isNm c) = true := by
              simp only [Bool.or_eq_false_iff, Bool.not_eq_false'] at q
              simp [q.1.1, q.1.2, q.2]
            refine ca_i rfl (c48 (s := d) ws (by omega) fun h4 r4 e5 n4 => ?_)
            obtain ⟨k4, t4, rfl, hk4⟩ := numR_inv n4
            try simp only [go_sem, EH.n_push, EH.n_set, List.getElem?_cons_zero, List.getElem?_cons_succ, List.head?_cons, List.drop_succ_cons, List.drop_zero, List.take_succ_cons, List.take_zero, List.length_cons, List.length_nil, List.all_cons, List.all_nil, List.map_cons, List.map_nil, Nat.reduceAdd, Nat.reduceLeDiff, Nat.reduceEqDiff, Nat.reduceSub, Nat.zero_add, Nat.le_refl, Int.toNat_zero, Int.reduceToNat, Int.toNat_natCast, and_self, and_true, true_and, if_true, if_false, ↓reduceIte, Bool.and_true, Bool.and_self, Bool.true_and, Bool.false_eq_true, reduceCtorEq, AV.isSize, beq_self_eq_true, decide_true, decide_false, List.nil_append, forall_const, Bool.not_true, Bool.not_false, imp_self, true_implies, false_implies, List.getD_cons_zero, List.getD_cons_succ, Int.reduceLE, Int.reduceLT, Int.cast_ofNat_Int, bne_self_eq_false]
            refine ca_i rfl (c48 (s := e) ws (by omega) fun h5 r5 e6 n5 => ?_)
            obtain ⟨k5, t5, rfl, hk5⟩ := numR_inv n5
            try simp only [go_sem, EH.n_push, EH.n_set, List.getElem?_cons_zero, List.getElem?_cons_succ, List.head?_cons, List.drop_succ_cons, List.drop_zero, List.take_succ_cons, List.take_zero, List.length_cons, List.length_nil, List.all_cons, List.all_nil, List.map_cons, List.map_nil, Nat.reduceAdd, Nat.reduceLeDiff, Nat.reduceEqDiff, Nat.reduceSub, Nat.zero_add, Nat.le_refl, Int.toNat_zero, Int.reduceToNat, Int.toNat_natCast, and_self, and_true, true_and, if_true, if_false, ↓reduceIte, Bool.and_true, Bool.and_self, Bool.true_and, Bool.false_eq_true, reduceCtorEq, AV.isSize, beq_self_eq_true, decide_true, decide_false, List.nil_append, forall_const, Bool.not_true, Bool.not_false, imp_self, true_implies, false_implies, List.getD_cons_zero, List.getD_cons_succ, Int.reduceLE, Int.reduceLT, Int.cast_ofNat_Int, bne_self_eq_false]
            refine ca_i rfl (c48 (s := f) ws (by omega) fun h6 r6 e7 n6 => ?_)
            obtain ⟨k6, t6, rfl, hk6⟩ := numR_inv n6
            try simp only [go_sem, EH.n_push, EH.n_set, List.getElem?_cons_zero, List.getElem?_cons_succ, List.head?_cons, List.drop_succ_cons, List.drop_zero, List.take_succ_cons, List.take_zero, List.length_cons, List.length_nil, List.all_cons, List.all_nil, List.map_cons, List.map_nil, Nat.reduceAdd, Nat.reduceLeDiff, Nat.reduceEqDiff, Nat.reduceSub, Nat.zero_add, Nat.le_refl, Int.toNat_zero, Int.reduceToNat, Int.toNat_natCast, and_self, and_true, true_and, if_true, if_false, ↓reduceIte, Bool.and_true, Bool.and_self, Bool.true_and, Bool.false_eq_true, reduceCtorEq, AV.isSize, beq_self_eq_true, decide_true, decide_false, List.nil_append, forall_const, Bool.not_true, Bool.not_false, imp_self, true_implies, false_implies, List.getD_cons_zero, List.getD_cons_succ, Int.reduceLE, Int.reduceLT, Int.cast_ofNat_Int, bne_self_eq_false]
            refine and_i (b := t5) (fun q J hJ => ?_) (fun h7 e8 => ?_)
            · exact hJ _ (.refl _)
            · refine and_i (b := t6) (fun q J hJ => ?_) (fun h8 e9 => ?_)
              · exact hJ _ (.refl _)
              · have e10 := (((e5.trans e6).trans e7).trans e8).trans e9
                have hg8 := e10.get hg
                have hn8 := e10.1
                try simp only [go_sem, EH.n_push, EH.n_set, List.getElem?_cons_zero, List.getElem?_cons_succ, List.head?_cons, List.drop_succ_cons, List.drop_zero, List.take_succ_cons, List.take_zero, List.length_cons, List.length_nil, List.all_cons, List.all_nil, List.map_cons, List.map_nil, Nat.reduceAdd, Nat.reduceLeDiff, Nat.reduceEqDiff, Nat.reduceSub, Nat.zero_add, Nat.le_refl, Int.toNat_zero, Int.reduceToNat, Int.toNat_natCast, and_self, and_true, true_and, if_true, if_false, ↓reduceIte, Bool.and_true, Bool.and_self, Bool.true_and, Bool.false_eq_true, reduceCtorEq, AV.isSize, beq_self_eq_true, decide_true, decide_false, List.nil_append, forall_const, Bool.not_true, Bool.not_false, imp_self, true_implies, false_implies, List.getD_cons_zero, List.getD_cons_succ, Int.reduceLE, Int.reduceLT, Int.cast_ofNat_Int, bne_self_eq_false, hg8]
                rw [get_set_eq rfl (by omega)]
                try simp only [go_sem, EH.n_push, EH.n_set, List.getElem?_cons_zero, List.getElem?_cons_succ, List.head?_cons, List.drop_succ_cons, List.drop_zero, List.take_succ_cons, List.take_zero, List.length_cons, List.length_nil, List.all_cons, List.all_nil, List.map_cons, List.map_nil, Nat.reduceAdd, Nat.reduceLeDiff, Nat.reduceEqDiff, Nat.reduceSub, Nat.zero_add, Nat.le_refl, Int.toNat_zero, Int.reduceToNat, Int.toNat_natCast, and_self, and_true, true_and, if_true, if_false, ↓reduceIte, Bool.and_true, Bool.and_self, Bool.true_and, Bool.false_eq_true, reduceCtorEq, AV.isSize, beq_self_eq_true, decide_true, decide_false, List.nil_append, forall_const, Bool.not_true, Bool.not_false, imp_self, true_implies, false_implies, List.getD_cons_zero, List.getD_cons_succ, Int.reduceLE, Int.reduceLT, Int.cast_ofNat_Int, bne_self_eq_false]
                refine hk _ _ (ext_set (b := h.n) (e4.trans e10) (Nat.le_refl _)) ?_
                unfold entS
                rw [he]
                simp only
                rw [if_pos z]
                exact ent_fin hk4 hk5 hk6
  · have en := Ext.push h (.cells [.str [], .str [], .int .i64 0, .int .i64 0, .bool false])
    have hx : entS s = none := by
      unfold entS
      split
      · rename_i a b c d e f he; exact absurd (by rw [he]; rfl) hne
      · rfl
    try simp only [go_sem, EH.n_push, EH.n_set, List.getElem?_cons_zero, List.getElem?_cons_succ, List.head?_cons, List.drop_succ_cons, List.drop_zero, List.take_succ_cons, List.take_zero, List.length_cons, List.length_nil, List.all_cons, List.all_nil, List.map_cons, List.map_nil, Nat.reduceAdd, Nat.reduceLeDiff, Nat.reduceEqDiff, Nat.reduceSub, Nat.zero_add, Nat.le_refl, Int.toNat_zero, Int.reduceToNat, Int.toNat_natCast, and_self, and_true, true_and, if_true, if_false, ↓reduceIte, Bool.and_true, Bool.and_self, Bool.true_and, Bool.false_eq_true, reduceCtorEq, AV.isSize, beq_self_eq_true, decide_true, decide_false, List.nil_append, forall_const, Bool.not_true, Bool.not_false, imp_self, true_implies, false_implies, List.getD_cons_zero, List.getD_cons_succ, Int.reduceLE, Int.reduceLT, Int.cast_ofNat_Int, bne_self_eq_false]
    refine ca_i rfl (split_ok ws (by omega) ?_)
    try simp only [go_sem, EH.n_push, EH.n_set, List.getElem?_cons_zero, List.getElem?_cons_succ, List.head?_cons, List.drop_succ_cons, List.drop_zero, List.take_succ_cons, List.take_zero, List.length_cons, List.length_nil, List.all_cons, List.all_nil, List.map_cons, List.map_nil, Nat.reduceAdd, Nat.reduceLeDiff, Nat.reduceEqDiff, Nat.reduceSub, Nat.zero_add, Nat.le_refl, Int.toNat_zero, Int.reduceToNat, Int.toNat_natCast, and_self, and_true, true_and, if_true, if_false, ↓reduceIte, Bool.and_true, Bool.and_self, Bool.true_and, Bool.false_eq_true, reduceCtorEq, AV.isSize, beq_self_eq_true, decide_true, decide_false, List.nil_append, forall_const, Bool.not_true, Bool.not_false, imp_self, true_implies, false_implies, List.getD_cons_zero, List.getD_cons_succ, Int.reduceLE, Int.reduceLT, Int.cast_ofNat_Int, bne_self_eq_false, List.length_map]
    have hb : (((spl 32 s).length : Int) != 6) = true := by
      rw [bne_iff_ne]; omega
    rw [hb]
    refine or_i (b := true) (t := true) (fun q J hJ => by cases q) (fun h1 e1 => ?_)
    try simp only [go_sem, EH.n_push, EH.n_set, List.getElem?_cons_zero, List.getElem?_cons_succ, List.head?_cons, List.drop_succ_cons, List.drop_zero, List.take_succ_cons, List.take_zero, List.length_cons, List.length_nil, List.all_cons, List.all_nil, List.map_cons, List.map_nil, Nat.reduceAdd, Nat.reduceLeDiff, Nat.reduceEqDiff, Nat.reduceSub, Nat.zero_add, Nat.le_refl, Int.toNat_zero, Int.reduceToNat, Int.toNat_natCast, and_self, and_true, true_and, if_true, if_false, ↓reduceIte, Bool.and_true, Bool.and_self, Bool.true_and, Bool.false_eq_true, reduceCtorEq, AV.isSize, beq_self_eq_true, decide_true, decide_false, List.nil_append, forall_const, Bool.not_true, Bool.not_false, imp_self, true_implies, false_implies, List.getD_cons_zero, List.getD_cons_succ, Int.reduceLE, Int.reduceLT, Int.cast_ofNat_Int, bne_self_eq_false, Bool.true_or]
    refine join_i (x := .pl undef) (fun J hJ => hJ _ (.refl _)) (fun h2 e2 => ?_)
    try simp only [go_sem, EH.n_push, EH.n_set, List.getElem?_cons_zero, List.getElem?_cons_succ, List.head?_cons, List.drop_succ_cons, List.drop_zero, List.take_succ_cons, List.take_zero, List.length_cons, List.length_nil, List.all_cons, List.all_nil, List.map_cons, List.map_nil, Nat.reduceAdd, Nat.reduceLeDiff, Nat.reduceEqDiff, Nat.reduceSub, Nat.zero_add, Nat.le_refl, Int.toNat_zero, Int.reduceToNat, Int.toNat_natCast, and_self, and_true, true_and, if_true, if_false, ↓reduceIte, Bool.and_true, Bool.and_self, Bool.true_and, Bool.false_eq_true, reduceCtorEq, AV.isSize, beq_self_eq_true, decide_true, decide_false, List.nil_append, forall_const, Bool.not_true, Bool.not_false, imp_self, true_implies, false_implies, List.getD_cons_zero, List.getD_cons_succ, Int.reduceLE, Int.reduceLT, Int.cast_ofNat_Int, bne_self_eq_false, Bool.true_or]
    refine join_i (x := .pl undef) (fun J hJ => hJ _ (.refl _)) (fun h3 e3 => ?_)
    have e4 := ((en.trans e1).trans e2).trans e3
    have hg : h3.get h.n = some (.cells [.str [], .str [], .int .i64 0, .int .i64 0, .bool false]) := ((e1.trans e2).trans e3).get (get_push_eq rfl)
    have hn3 : h.n < h3.n := EH.get_lt hg
    try simp only [go_sem, EH.n_push, EH.n_set, List.getElem?_cons_zero, List.getElem?_cons_succ, List.head?_cons, List.drop_succ_cons, List.drop_zero, List.take_succ_cons, List.take_zero, List.length_cons, List.length_nil, List.all_cons, List.all_nil, List.map_cons, List.map_nil, Nat.reduceAdd, Nat.reduceLeDiff, Nat.reduceEqDiff, Nat.reduceSub, Nat.zero_add, Nat.le_refl, Int.toNat_zero, Int.reduceToNat, Int.toNat_natCast, and_self, and_true, true_and, if_true, if_false, ↓reduceIte, Bool.and_true, Bool.and_self, Bool.true_and, Bool.false_eq_true, reduceCtorEq, AV.isSize, beq_self_eq_true, decide_true, decide_false, List.nil_append, forall_const, Bool.not_true, Bool.not_false, imp_self, true_implies, false_implies, List.getD_cons_zero, List.getD_cons_succ, Int.reduceLE, Int.reduceLT, Int.cast_ofNat_Int, bne_self_eq_false, hg, Bool.true_or]
    rw [get_set_eq rfl (by omega)]
    try simp only [go_sem, EH.n_push, EH.n_set, List.getElem?_cons_zero, List.getElem?_cons_succ, List.head?_cons, List.drop_succ_cons, List.drop_zero, List.take_succ_cons, List.take_zero, List.length_cons, List.length_nil, List.all_cons, List.all_nil, List.map_cons, List.map_nil, Nat.reduceAdd, Nat.reduceLeDiff, Nat.reduceEqDiff, Nat.reduceSub, Nat.zero_add, Nat.le_refl, Int.toNat_zero, Int.reduceToNat, Int.toNat_natCast, and_self, and_true, true_and, if_true, if_false, ↓reduceIte, Bool.and_true, Bool.and_self, Bool.true_and, Bool.false_eq_true, reduceCtorEq, AV.isSize, beq_self_eq_true, decide_true, decide_false, List.nil_append, forall_const, Bool.not_true, Bool.not_false, imp_self, true_implies, false_implies, List.getD_cons_zero, List.getD_cons_succ, Int.reduceLE, Int.reduceLT, Int.cast_ofNat_Int, bne_self_eq_false]
    refine hk _ _ (ext_set (b := h.n) e4 (Nat.le_refl _)) ?_
    rw [hx]
    exact ⟨[], [], [], 0, 0, false, rfl⟩
theorem c57 (ws : WS W0) (hl : s.length ≤ 100000) (hk : ∀ h' r, Ext h h' → EntR (entS s) r → k r h') : SCalls Tryz.prog W0 57 [.str s] h k := by
  refine W57_ok ?_
  unfold W57
  have hs := spl_len 32 s
  have hm : ∀ p ∈ spl 32 s, p.length ≤ s.length := fun p hp => spl_mem hp
  refine sixW (spl 32 s) (fun a b c d e f he => ?_) (fun hne => ?_)
  · rw [he] at hm
    have ha := hm a (by simp)
    have hb := hm b (by simp)
    have hc := hm c (by simp)
    have hd := hm d (by simp)
    have hee := hm e (by simp)
    have hf := hm f (by simp)
    have en := Ext.push h (.cells [.str [], .str [], .int .i64 0, .int .i64 0, .bool false])
    try simp only [go_sem, EH.n_push, EH.n_set, List.getElem?_cons_zero, List.getElem?_cons_succ, List.head?_cons, List.drop_succ_cons, List.drop_zero, List.take_succ_cons, List.take_zero, List.length_cons, List.length_nil, List.all_cons, List.all_nil, List.map_cons, List.map_nil, Nat.reduceAdd, Nat.reduceLeDiff, Nat.reduceEqDiff, Nat.reduceSub, Nat.zero_add, Nat.le_refl, Int.toNat_zero, Int.reduceToNat, Int.toNat_natCast, and_self, and_true, true_and, if_true, if_false, ↓reduceIte, Bool.and_true, Bool.and_self, Bool.true_and, Bool.false_eq_true, reduceCtorEq, AV.isSize, beq_self_eq_true, decide_true, decide_false, List.nil_append, forall_const, Bool.not_true, Bool.not_false, imp_self, true_implies, false_implies, List.getD_cons_zero, List.getD_cons_succ, Int.reduceLE, Int.reduceLT, Int.cast_ofNat_Int, bne_self_eq_false]
    refine ca_i rfl (split_ok ws (by omega) ?_)
    rw [he]
    try simp only [go_sem, EH.n_push, EH.n_set, List.getElem?_cons_zero, List.getElem?_cons_succ, List.head?_cons, List.drop_succ_cons, List.drop_zero, List.take_succ_cons, List.take_zero, List.length_cons, List.length_nil, List.all_cons, List.all_nil, List.map_cons, List.map_nil, Nat.reduceAdd, Nat.reduceLeDiff, Nat.reduceEqDiff, Nat.reduceSub, Nat.zero_add, Nat.le_refl, Int.toNat_zero, Int.reduceToNat, Int.toNat_natCast, and_self, and_true, true_and, if_true, if_false, ↓reduceIte, Bool.and_true, Bool.and_self, Bool.true_and, Bool.false_eq_true, reduceCtorEq, AV.isSize, beq_self_eq_true, decide_true, decide_false, List.nil_append, forall_const, Bool.not_true, Bool.not_false, imp_self, true_implies, false_implies, List.getD_cons_zero, List.getD_cons_succ, Int.reduceLE, Int.reduceLT, Int.cast_ofNat_Int, bne_self_eq_false]
    refine join_i (x := AV.bool (!isNm a)) (h := h.push (.cells [.str [], .str [], .int .i64 0, .int .i64 0, .bool false])) (fun J hJ => ?_) (fun h1 e1 => ?_)
    · refine ca_i rfl (c54 fun h2 e2 => ?_)
      try simp only [go_sem, EH.n_push, EH.n_set, List.getElem?_cons_zero, List.getElem?_cons_succ, List.head?_cons, List.drop_succ_cons, List.drop_zero, List.take_succ_cons, List.take_zero, List.length_cons, List.length_nil, List.all_cons, List.all_nil, List.map_cons, List.map_nil, Nat.reduceAdd, Nat.reduceLeDiff, Nat.reduceEqDiff, Nat.reduceSub, Nat.zero_add, Nat.le_refl, Int.toNat_zero, Int.reduceToNat, Int.toNat_natCast, and_self, and_true, true_and, if_true, if_false, ↓reduceIte, Bool.and_true, Bool.and_self, Bool.true_and, Bool.false_eq_true, reduceCtorEq, AV.isSize, beq_self_eq_true, decide_true, decide_false, List.nil_append, forall_const, Bool.not_true, Bool.not_false, imp_self, true_implies, false_implies, List.getD_cons_zero, List.getD_cons_succ, Int.reduceLE, Int.reduceLT, Int.cast_ofNat_Int, bne_self_eq_false]
      exact hJ _ e2
    · refine or_i (b := ?_) (fun q J hJ => ?_) (fun h2 e2 => ?_); rotate_left
      · refine ca_i rfl (c124 ws (by omega) fun h3 e3 => ?_)
        try simp only [go_sem, EH.n_push, EH.n_set, List.getElem?_cons_zero, List.getElem?_cons_succ, List.head?_cons, List.drop_succ_cons, List.drop_zero, List.take_succ_cons, List.take_zero, List.length_cons, List.length_nil, List.all_cons, List.all_nil, List.map_cons, List.map_nil, Nat.reduceAdd, Nat.reduceLeDiff, Nat.reduceEqDiff, Nat.reduceSub, Nat.zero_add, Nat.le_refl, Int.toNat_zero, Int.reduceToNat, Int.toNat_natCast, and_self, and_true, true_and, if_true, if_false, ↓reduceIte, Bool.and_true, Bool.and_self, Bool.true_and, Bool.false_eq_true, reduceCtorEq, AV.isSize, beq_self_eq_true, decide_true, decide_false, List.nil_append, forall_const, Bool.not_true, Bool.not_false, imp_self, true_implies, false_implies, List.getD_cons_zero, List.getD_cons_succ, Int.reduceLE, Int.reduceLT, Int.cast_ofNat_Int, bne_self_eq_false]
        exact hJ _ e3
      · refine or_i (b := ?_) (fun q J hJ => ?_) (fun h3 e3 => ?_); rotate_left
        · refine ca_i rfl (c54 fun h4 e4 => ?_)
          try simp only [go_sem, EH.n_push, EH.n_set, List.getElem?_cons_zero, List.getElem?_cons_succ, List.head?_cons, List.drop_succ_cons, List.drop_zero, List.take_succ_cons, List.take_zero, List.length_cons, List.length_nil, List.all_cons, List.all_nil, List.map_cons, List.map_nil, Nat.reduceAdd, Nat.reduceLeDiff, Nat.reduceEqDiff, Nat.reduceSub, Nat.zero_add, Nat.le_refl, Int.toNat_zero, Int.reduceToNat, Int.toNat_natCast, and_self, and_true, true_and, if_true, if_false, ↓reduceIte, Bool.and_true, Bool.and_self, Bool.true_and, Bool.false_eq_true, reduceCtorEq, AV.isSize, beq_self_eq_true, decide_true, decide_false, List.nil_append, forall_const, Bool.not_true, Bool.not_false, imp_self, true_implies, false_implies, List.getD_cons_zero, List.getD_cons_succ, Int.reduceLE, Int.reduceLT, Int.cast_ofNat_Int, bne_self_eq_false]
          exact hJ _ e4
        · have e4 := ((en.trans e1).trans e2).trans e3
          have hg : h3.get h.n = some (.cells [.str [], .str [], .int .i64 0, .int .i64 0, .bool false]) := ((e1.trans e2).trans e3).get (get_push_eq rfl)
          have hn3 : h.n < h3.n := EH.get_lt hg
          try simp only [go_sem, EH.n_push, EH.n_set, List.getElem?_cons_zero, List.getElem?_cons_succ, List.head?_cons, List.drop_succ_cons, List.drop_zero, List.take_succ_cons, List.take_zero, List.length_cons, List.length_nil, List.all_cons, List.all_nil, List.map_cons, List.map_nil, Nat.reduceAdd, Nat.reduceLeDiff, Nat.reduceEqDiff, Nat.reduceSub, Nat.zero_add, Nat.le_refl, Int.toNat_zero, Int.reduceToNat, Int.toNat_natCast, and_self, and_true, true_and, if_true, if_false, ↓reduceIte, Bool.and_true, Bool.and_self, Bool.true_and, Bool.false_eq_true, reduceCtorEq, AV.isSize, beq_self_eq_true, decide_true, decide_false, List.nil_append, forall_const, Bool.not_true, Bool.not_false, imp_self, true_implies, false_implies, List.getD_cons_zero, List.getD_cons_succ, Int.reduceLE, Int.reduceLT, Int.cast_ofNat_Int, bne_self_eq_false]
          refine ⟨fun q => ?_, fun q => ?_⟩
          · try simp only [go_sem, EH.n_push, EH.n_set, List.getElem?_cons_zero, List.getElem?_cons_succ, List.head?_cons, List.drop_succ_cons, List.drop_zero, List.take_succ_cons, List.take_zero, List.length_cons, List.length_nil, List.all_cons, List.all_nil, List.map_cons, List.map_nil, Nat.reduceAdd, Nat.reduceLeDiff, Nat.reduceEqDiff, Nat.reduceSub, Nat.zero_add, Nat.le_refl, Int.toNat_zero, Int.reduceToNat, Int.toNat_natCast, and_self, and_true, true_and, if_true, if_false, ↓reduceIte, Bool.and_true, Bool.and_self, Bool.true_and, Bool.false_eq_true, reduceCtorEq, AV.isSize, beq_self_eq_true, decide_true, decide_false, List.nil_append, forall_const, Bool.not_true, Bool.not_false, imp_self, true_implies, false_implies, List.getD_cons_zero, List.getD_cons_succ, Int.reduceLE, Int.reduceLT, Int.cast_ofNat_Int, bne_self_eq_false, hg]
            rw [get_set_eq rfl (by omega)]
            try simp only [go_sem, EH.n_push, EH.n_set, List.getElem?_cons_zero, List.getElem?_cons_succ, List.head?_cons, List.drop_succ_cons, List.drop_zero, List.take_succ_cons, List.take_zero, List.length_cons, List.length_nil, List.all_cons, List.all_nil, List.map_cons, List.map_nil, Nat.reduceAdd, Nat.reduceLeDiff, Nat.reduceEqDiff, Nat.reduceSub, Nat.zero_add, Nat.le_refl, Int.toNat_zero, Int.reduceToNat, Int.toNat_natCast, and_self, and_true, true_and, if_true, if_false, ↓reduceIte, Bool.and_true, Bool.and_self, Bool.true_and, Bool.false_eq_true, reduceCtorEq, AV.isSize, beq_self_eq_true, decide_true, decide_false, List.nil_append, forall_const, Bool.not_true, Bool.not_false, imp_self, true_implies, false_implies, List.getD_cons_zero, List.getD_cons_succ, Int.reduceLE, Int.reduceLT, Int.cast_ofNat_Int, bne_self_eq_false]
            have hx : entS s = none := by
              unfold entS
              rw [he]
              simp only
              rw [if_neg]
              intro z
              simp only [Bool.and_eq_true] at z
              rw [z.1.1, z.1.2, z.2] at q
              simp at q
            refine hk _ _ (ext_set (b := h.n) e4 (Nat.le_refl _)) ?_
            rw [hx]
            exact ⟨[], [], [], 0, 0, false, rfl⟩
          · have z : (isNm a && pathS b && isNm c) = true := by
              simp only [Bool.or_eq_false_iff, Bool.not_eq_false'] at q
              simp [q.1.1, q.1.2, q.2]
            refine ca_i rfl (c125 (m := 4) ws (by omega) fun h4 r4 e5 n4 => ?_)
            obtain ⟨k4, t4, rfl, hk4⟩ := numR_inv n4
            try simp only [go_sem, EH.n_push, EH.n_set, List.getElem?_cons_zero, List.getElem?_cons_succ, List.head?_cons, List.drop_succ_cons, List.drop_zero, List.take_succ_cons, List.take_zero, List.length_cons, List.length_nil, List.all_cons, List.all_nil, List.map_cons, List.map_nil, Nat.reduceAdd, Nat.reduceLeDiff, Nat.reduceEqDiff, Nat.reduceSub, Nat.zero_add, Nat.le_refl, Int.toNat_zero, Int.reduceToNat, Int.toNat_natCast, and_self, and_true, true_and, if_true, if_false, ↓reduceIte, Bool.and_true, Bool.and_self, Bool.true_and, Bool.false_eq_true, reduceCtorEq, AV.isSize, beq_self_eq_true, decide_true, decide_false, List.nil_append, forall_const, Bool.not_true, Bool.not_false, imp_self, true_implies, false_implies, List.getD_cons_zero, List.getD_cons_succ, Int.reduceLE, Int.reduceLT, Int.cast_ofNat_Int, bne_self_eq_false]
            refine ca_i rfl (c125 (m := 3) ws (by omega) fun h5 r5 e6 n5 => ?_)
            obtain ⟨k5, t5, rfl, hk5⟩ := numR_inv n5
            try simp only [go_sem, EH.n_push, EH.n_set, List.getElem?_cons_zero, List.getElem?_cons_succ, List.head?_cons, List.drop_succ_cons, List.drop_zero, List.take_succ_cons, List.take_zero, List.length_cons, List.length_nil, List.all_cons, List.all_nil, List.map_cons, List.map_nil, Nat.reduceAdd, Nat.reduceLeDiff, Nat.reduceEqDiff, Nat.reduceSub, Nat.zero_add, Nat.le_refl, Int.toNat_zero, Int.reduceToNat, Int.toNat_natCast, and_self, and_true, true_and, if_true, if_false, ↓reduceIte, Bool.and_true, Bool.and_self, Bool.true_and, Bool.false_eq_true, reduceCtorEq, AV.isSize, beq_self_eq_true, decide_true, decide_false, List.nil_append, forall_const, Bool.not_true, Bool.not_false, imp_self, true_implies, false_implies, List.getD_cons_zero, List.getD_cons_succ, Int.reduceLE, Int.reduceLT, Int.cast_ofNat_Int, bne_self_eq_false]
            refine ca_i rfl (c125 (m := 1) ws (by omega) fun h6 r6 e7 n6 => ?_)
            obtain ⟨k6, t6, rfl, hk6⟩ := numR_inv n6
            try simp only [go_sem, EH.n_push, EH.n_set, List.getElem?_cons_zero, List.getElem?_cons_succ, List.head?_cons, List.drop_succ_cons, List.drop_zero, List.take_succ_cons, List.take_zero, List.length_cons, List.length_nil, List.all_cons, List.all_nil, List.map_cons, List.map_nil, Nat.reduceAdd, Nat.reduceLeDiff, Nat.reduceEqDiff, Nat.reduceSub, Nat.zero_add, Nat.le_refl, Int.toNat_zero, Int.reduceToNat, Int.toNat_natCast, and_self, and_true, true_and, if_true, if_false, ↓reduceIte, Bool.and_true, Bool.and_self, Bool.true_and, Bool.false_eq_true, reduceCtorEq, AV.isSize, beq_self_eq_true, decide_true, decide_false, List.nil_append, forall_const, Bool.not_true, Bool.not_false, imp_self, true_implies, false_implies, List.getD_cons_zero, List.getD_cons_succ, Int.reduceLE, Int.reduceLT, Int.cast_ofNat_Int, bne_self_eq_false]
            refine and_i (b := t5) (fun q J hJ => ?_) (fun h7 e8 => ?_)
            · exact hJ _ (.refl _)
            · refine and_i (b := t6) (fun q J hJ => ?_) (fun h8 e9 => ?_)
              · exact hJ _ (.refl _)
              · have e10 := (((e5.trans e6).trans e7).trans e8).trans e9
                have hg8 := e10.get hg
                have hn8 := e10.1
                try simp only [go_sem, EH.n_push, EH.n_set, List.getElem?_cons_zero, List.getElem?_cons_succ, List.head?_cons, List.drop_succ_cons, List.drop_zero, List.take_succ_cons, List.take_zero, List.length_cons, List.length_nil, List.all_cons, List.all_nil, List.map_cons, List.map_nil, Nat.reduceAdd, Nat.reduceLeDiff, Nat.reduceEqDiff, Nat.reduceSub, Nat.zero_add, Nat.le_refl, Int.toNat_zero, Int.reduceToNat, Int.toNat_natCast, and_self, and_true, true_and, if_true, if_false, ↓reduceIte, Bool.and_true, Bool.and_self, Bool.true_and, Bool.false_eq_true, reduceCtorEq, AV.isSize, beq_self_eq_true, decide_true, decide_false, List.nil_append, forall_const, Bool.not_true, Bool.not_false, imp_self, true_implies, false_implies, List.getD_cons_zero, List.getD_cons_succ, Int.reduceLE, Int.reduceLT, Int.cast_ofNat_Int, bne_self_eq_false, hg8]
                rw [get_set_eq rfl (by omega)]
                try simp only [go_sem, EH.n_push, EH.n_set, List.getElem?_cons_zero, List.getElem?_cons_succ, List.head?_cons, List.drop_succ_cons, List.drop_zero, List.take_succ_cons, List.take_zero, List.length_cons, List.length_nil, List.all_cons, List.all_nil, List.map_cons, List.map_nil, Nat.reduceAdd, Nat.reduceLeDiff, Nat.reduceEqDiff, Nat.reduceSub, Nat.zero_add, Nat.le_refl, Int.toNat_zero, Int.reduceToNat, Int.toNat_natCast, and_self, and_true, true_and, if_true, if_false, ↓reduceIte, Bool.and_true, Bool.and_self, Bool.true_and, Bool.false_eq_true, reduceCtorEq, AV.isSize, beq_self_eq_true, decide_true, decide_false, List.nil_append, forall_const, Bool.not_true, Bool.not_false, imp_self, true_implies, false_implies, List.getD_cons_zero, List.getD_cons_succ, Int.reduceLE, Int.reduceLT, Int.cast_ofNat_Int, bne_self_eq_false]
                refine hk _ _ (ext_set (b := h.n) (e4.trans e10) (Nat.le_refl _)) ?_
                unfold entS
                rw [he]
                simp only
                rw [if_pos z]
                exact ent_fin hk4 hk5 hk6
  · have en := Ext.push h (.cells [.str [], .str [], .int .i64 0, .int .i64 0, .bool false])
    have hx : entS s = none := by
      unfold entS
      split
      · rename_i a b c d e f he; exact absurd (by rw [he]; rfl) hne
      · rfl
    try simp only [go_sem, EH.n_push, EH.n_set, List.getElem?_cons_zero, List.getElem?_cons_succ, List.head?_cons, List.drop_succ_cons, List.drop_zero, List.take_succ_cons, List.take_zero, List.length_cons, List.length_nil, List.all_cons, List.all_nil, List.map_cons, List.map_nil, Nat.reduceAdd, Nat.reduceLeDiff, Nat.reduceEqDiff, Nat.reduceSub, Nat.zero_add, Nat.le_refl, Int.toNat_zero, Int.reduceToNat, Int.toNat_natCast, and_self, and_true, true_and, if_true, if_false, ↓reduceIte, Bool.and_true, Bool.and_self, Bool.true_and, Bool.false_eq_true, reduceCtorEq, AV.isSize, beq_self_eq_true, decide_true, decide_false, List.nil_append, forall_const, Bool.not_true, Bool.not_false, imp_self, true_implies, false_implies, List.getD_cons_zero, List.getD_cons_succ, Int.reduceLE, Int.reduceLT, Int.cast_ofNat_Int, bne_self_eq_false]
    refine ca_i rfl (split_ok ws (by omega) ?_)
    try simp only [go_sem, EH.n_push, EH.n_set, List.getElem?_cons_zero, List.getElem?_cons_succ, List.head?_cons, List.drop_succ_cons, List.drop_zero, List.take_succ_cons, List.take_zero, List.length_cons, List.length_nil, List.all_cons, List.all_nil, List.map_cons, List.map_nil, Nat.reduceAdd, Nat.reduceLeDiff, Nat.reduceEqDiff, Nat.reduceSub, Nat.zero_add, Nat.le_refl, Int.toNat_zero, Int.reduceToNat, Int.toNat_natCast, and_self, and_true, true_and, if_true, if_false, ↓reduceIte, Bool.and_true, Bool.and_self, Bool.true_and, Bool.false_eq_true, reduceCtorEq, AV.isSize, beq_self_eq_true, decide_true, decide_false, List.nil_append, forall_const, Bool.not_true, Bool.not_false, imp_self, true_implies, false_implies, List.getD_cons_zero, List.getD_cons_succ, Int.reduceLE, Int.reduceLT, Int.cast_ofNat_Int, bne_self_eq_false, List.length_map]
    have hb : (((spl 32 s).length : Int) != 6) = true := by
      rw [bne_iff_ne]; omega
    rw [hb]
    refine or_i (b := true) (t := true) (fun q J hJ => by cases q) (fun h1 e1 => ?_)
    try simp only [go_sem, EH.n_push, EH.n_set, List.getElem?_cons_zero, List.getElem?_cons_succ, List.head?_cons, List.drop_succ_cons, List.drop_zero, List.take_succ_cons, List.take_zero, List.length_cons, List.length_nil, List.all_cons, List.all_nil, List.map_cons, List.map_nil, Nat.reduceAdd, Nat.reduceLeDiff, Nat.reduceEqDiff, Nat.reduceSub, Nat.zero_add, Nat.le_refl, Int.toNat_zero, Int.reduceToNat, Int.toNat_natCast, and_self, and_true, true_and, if_true, if_false, ↓reduceIte, Bool.and_true, Bool.and_self, Bool.true_and, Bool.false_eq_true, reduceCtorEq, AV.isSize, beq_self_eq_true, decide_true, decide_false, List.nil_append, forall_const, Bool.not_true, Bool.not_false, imp_self, true_implies, false_implies, List.getD_cons_zero, List.getD_cons_succ, Int.reduceLE, Int.reduceLT, Int.cast_ofNat_Int, bne_self_eq_false, Bool.true_or]
    refine join_i (x := .pl undef) (fun J hJ => hJ _ (.refl _)) (fun h2 e2 => ?_)
    try simp only [go_sem, EH.n_push, EH.n_set, List.getElem?_cons_zero, List.getElem?_cons_succ, List.head?_cons, List.drop_succ_cons, List.drop_zero, List.take_succ_cons, List.take_zero, List.length_cons, List.length_nil, List.all_cons, List.all_nil, List.map_cons, List.map_nil, Nat.reduceAdd, Nat.reduceLeDiff, Nat.reduceEqDiff, Nat.reduceSub, Nat.zero_add, Nat.le_refl, Int.toNat_zero, Int.reduceToNat, Int.toNat_natCast, and_self, and_true, true_and, if_true, if_false, ↓reduceIte, Bool.and_true, Bool.and_self, Bool.true_and, Bool.false_eq_true, reduceCtorEq, AV.isSize, beq_self_eq_true, decide_true, decide_false, List.nil_append, forall_const, Bool.not_true, Bool.not_false, imp_self, true_implies, false_implies, List.getD_cons_zero, List.getD_cons_succ, Int.reduceLE, Int.reduceLT, Int.cast_ofNat_Int, bne_self_eq_false, Bool.true_or]
    refine join_i (x := .pl undef) (fun J hJ => hJ _ (.refl _)) (fun h3 e3 => ?_)
    have e4 := ((en.trans e1).trans e2).trans e3
    have hg : h3.get h.n = some (.cells [.str [], .str [], .int .i64 0, .int .i64 0, .bool false]) := ((e1.trans e2).trans e3).get (get_push_eq rfl)
    have hn3 : h.n < h3.n := EH.get_lt hg
    try simp only [go_sem, EH.n_push, EH.n_set, List.getElem?_cons_zero, List.getElem?_cons_succ, List.head?_cons, List.drop_succ_cons, List.drop_zero, List.take_succ_cons, List.take_zero, List.length_cons, List.length_nil, List.all_cons, List.all_nil, List.map_cons, List.map_nil, Nat.reduceAdd, Nat.reduceLeDiff, Nat.reduceEqDiff, Nat.reduceSub, Nat.zero_add, Nat.le_refl, Int.toNat_zero, Int.reduceToNat, Int.toNat_natCast, and_self, and_true, true_and, if_true, if_false, ↓reduceIte, Bool.and_true, Bool.and_self, Bool.true_and, Bool.false_eq_true, reduceCtorEq, AV.isSize, beq_self_eq_true, decide_true, decide_false, List.nil_append, forall_const, Bool.not_true, Bool.not_false, imp_self, true_implies, false_implies, List.getD_cons_zero, List.getD_cons_succ, Int.reduceLE, Int.reduceLT, Int.cast_ofNat_Int, bne_self_eq_false, hg, Bool.true_or]
    rw [get_set_eq rfl (by omega)]
    try simp only [go_sem, EH.n_push, EH.n_set, List.getElem?_cons_zero, List.getElem?_cons_succ, List.head?_cons, List.drop_succ_cons, List.drop_zero, List.take_succ_cons, List.take_zero, List.length_cons, List.length_nil, List.all_cons, List.all_nil, List.map_cons, List.map_nil, Nat.reduceAdd, Nat.reduceLeDiff, Nat.reduceEqDiff, Nat.reduceSub, Nat.zero_add, Nat.le_refl, Int.toNat_zero, Int.reduceToNat, Int.toNat_natCast, and_self, and_true, true_and, if_true, if_false, ↓reduceIte, Bool.and_true, Bool.and_self, Bool.true_and, Bool.false_eq_true, reduceCtorEq, AV.isSize, beq_self_eq_true, decide_true, decide_false, List.nil_append, forall_const, Bool.not_true, Bool.not_false, imp_self, true_implies, false_implies, List.getD_cons_zero, List.getD_cons_succ, Int.reduceLE, Int.reduceLT, Int.cast_ofNat_Int, bne_self_eq_false]
    refine hk _ _ (ext_set (b := h.n) e4 (Nat.le_refl _)) ?_
    rw [hx]
    exact ⟨[], [], [], 0, 0, false, rfl⟩
end
end Go.Proofs.YtnpkhnlcpeebcaaGreatDoor
/- Contracts: two lists are the same; the document's reader of module files. -/
set_option maxRecDepth 100000
namespace Go.Proofs.YtnpkhnlcpeebcaaGreatDoor
open Go Go.Qa Go.Proofs

structure Ent where
  path : List UInt8
  name : List UInt8
  kind : Int
  rank : Int
  par : Bool
  deriving DecidableEq
def Ent.av (e : Ent) : AV := .agg [.str e.path, .str e.name, .int .i64 e.kind, .int .i64 e.rank, .bool e.par]
def ent0 : Ent := ⟨[], [], 0, 0, false⟩
theorem ent_cells (l : List Ent) (i : Nat) (h : i < l.length) : ((l.map Ent.av).getD i .any).cells = [.str (l.getD i ent0).path, .str (l.getD i ent0).name, .int .i64 (l.getD i ent0).kind, .int .i64 (l.getD i ent0).rank, .bool (l.getD i ent0).par] := by
  rw [List.getD_eq_getElem?_getD, List.getElem?_map, List.getElem?_eq_getElem h, List.getD_eq_getElem?_getD, List.getElem?_eq_getElem h]
  rfl
theorem ent_eqs (a b : Ent) : eqAggs [.s, .s, .i, .i, .b] (.agg [.str a.path, .str a.name, .int .i64 a.kind, .int .i64 a.rank, .bool a.par]) (.agg [.str b.path, .str b.name, .int .i64 b.kind, .int .i64 b.rank, .bool b.par]) = some (decide (a = b)) := by
  obtain ⟨a1, a2, a3, a4, a5⟩ := a
  obtain ⟨b1, b2, b3, b4, b5⟩ := b
  simp only [eqAggs, List.length_cons, List.length_nil, and_self, if_true, eqCells, scalEq, Ent.mk.injEq]
  have f1 : ¬ a1 = b1 → (a1 == b1) = false := fun h => by simpa using h
  have f2 : ¬ a2 = b2 → (a2 == b2) = false := fun h => by simpa using h
  have f3 : ¬ a3 = b3 → (a3 == b3) = false := fun h => by simpa using h
  have f4 : ¬ a4 = b4 → (a4 == b4) = false := fun h => by simpa using h
  have f5 : ¬ a5 = b5 → (a5 == b5) = false := fun h => by simpa using h
  by_cases h1 : a1 = b1
  · by_cases h2 : a2 = b2
    · by_cases h3 : a3 = b3
      · by_cases h4 : a4 = b4
        · by_cases h5 : a5 = b5
          · simp [h1, h2, h3, h4, h5]
          · rw [f5 h5]; simp [h1, h2, h3, h4, h5]
        · rw [f4 h4]; simp [h1, h2, h3, h4]
      · rw [f3 h3]; simp [h1, h2, h3]
    · rw [f2 h2]; simp [h1, h2]
  · rw [f1 h1]; simp [h1]
theorem list_eq_of_take {α : Type} [DecidableEq α] (d : α) (a b : List α) (hl : a.length = b.length) (h : ∀ i, i < a.length → a.getD i d = b.getD i d) : a = b := by
  refine List.ext_getElem hl fun i h1 h2 => ?_
  have := h i h1
  rw [List.getD_eq_getElem?_getD, List.getElem?_eq_getElem h1, List.getD_eq_getElem?_getD, List.getElem?_eq_getElem h2] at this
  exact this
section
variable {W0 : World} {h : EH} {k : AV → EH → Prop} {c : Int} {s : List UInt8} {m : Int}
theorem c13 {a b : List (List UInt8)} {x y : AV} (hx : Slc 1 (a.map .str) x) (hy : Slc 1 (b.map .str) y) (hl : a.length ≤ 1000000) (hk : ∀ h', Ext h h' → k (.bool (decide (a = b))) h') : SCalls Tryz.prog W0 13 [x, y] h k := by
  refine W13_ok ?_
  unfold W13
  rw [hx.ln, hy.ln]
  try simp only [go_sem, EH.n_push, EH.n_set, List.getElem?_cons_zero, List.getElem?_cons_succ, List.head?_cons, List.drop_succ_cons, List.drop_zero, List.take_succ_cons, List.take_zero, List.length_cons, List.length_nil, List.all_cons, List.all_nil, List.map_cons, List.map_nil, Nat.reduceAdd, Nat.reduceLeDiff, Nat.reduceEqDiff, Nat.reduceSub, Nat.zero_add, Nat.le_refl, Int.toNat_zero, Int.reduceToNat, Int.toNat_natCast, and_self, and_true, true_and, if_true, if_false, ↓reduceIte, Bool.and_true, Bool.and_self, Bool.true_and, Bool.false_eq_true, reduceCtorEq, AV.isSize, beq_self_eq_true, decide_true, decide_false, List.nil_append, forall_const, Bool.not_true, Bool.not_false, imp_self, true_implies, false_implies, List.getD_cons_zero, List.getD_cons_succ, Int.reduceLE, Int.reduceLT, Int.cast_ofNat_Int, bne_self_eq_false, List.length_map]
  refine ⟨fun q => ?_, fun q => ?_⟩
  · have : decide (a = b) = false := by
      rw [decide_eq_false_iff_not]; intro e; subst e; simp at q
    rw [this] at hk
    exact hk _ (.refl _)
  · have hab : a.length = b.length := by simp at q; omega
    refine ⟨fun n v h' => Ext h h' ∧ ∃ i : Nat, v = .int .i64 i ∧ n = a.length - i ∧ i ≤ a.length ∧ ∀ j, j < i → a.getD j [] = b.getD j [], _, ⟨.refl h, 0, rfl, rfl, by omega, fun j hj => by omega⟩, ?_⟩
    rintro n v h1 ⟨e1, i, rfl, rfl, hi, hp⟩
    rw [hx.ln]
    try simp only [go_sem, EH.n_push, EH.n_set, List.getElem?_cons_zero, List.getElem?_cons_succ, List.head?_cons, List.drop_succ_cons, List.drop_zero, List.take_succ_cons, List.take_zero, List.length_cons, List.length_nil, List.all_cons, List.all_nil, List.map_cons, List.map_nil, Nat.reduceAdd, Nat.reduceLeDiff, Nat.reduceEqDiff, Nat.reduceSub, Nat.zero_add, Nat.le_refl, Int.toNat_zero, Int.reduceToNat, Int.toNat_natCast, and_self, and_true, true_and, if_true, if_false, ↓reduceIte, Bool.and_true, Bool.and_self, Bool.true_and, Bool.false_eq_true, reduceCtorEq, AV.isSize, beq_self_eq_true, decide_true, decide_false, List.nil_append, forall_const, Bool.not_true, Bool.not_false, imp_self, true_implies, false_implies, List.getD_cons_zero, List.getD_cons_succ, Int.reduceLE, Int.reduceLT, Int.cast_ofNat_Int, bne_self_eq_false, List.length_map]
    refine ⟨fun q => ?_, fun q => ?_⟩
    · simp only [decide_eq_true_eq, Int.ofNat_lt] at q
      rw [hx.ia]
      refine ⟨by rw [List.length_map]; omega, ?_⟩
      simp only [Int.toNat_natCast]
      rw [str_getD a i q]
      try simp only [go_sem, EH.n_push, EH.n_set, List.getElem?_cons_zero, List.getElem?_cons_succ, List.head?_cons, List.drop_succ_cons, List.drop_zero, List.take_succ_cons, List.take_zero, List.length_cons, List.length_nil, List.all_cons, List.all_nil, List.map_cons, List.map_nil, Nat.reduceAdd, Nat.reduceLeDiff, Nat.reduceEqDiff, Nat.reduceSub, Nat.zero_add, Nat.le_refl, Int.toNat_zero, Int.reduceToNat, Int.toNat_natCast, and_self, and_true, true_and, if_true, if_false, ↓reduceIte, Bool.and_true, Bool.and_self, Bool.true_and, Bool.false_eq_true, reduceCtorEq, AV.isSize, beq_self_eq_true, decide_true, decide_false, List.nil_append, forall_const, Bool.not_true, Bool.not_false, imp_self, true_implies, false_implies, List.getD_cons_zero, List.getD_cons_succ, Int.reduceLE, Int.reduceLT, Int.cast_ofNat_Int, bne_self_eq_false]
      rw [hy.ia]
      refine ⟨by rw [List.length_map]; omega, ?_⟩
      simp only [Int.toNat_natCast]
      rw [str_getD b i (by omega)]
      try simp only [go_sem, EH.n_push, EH.n_set, List.getElem?_cons_zero, List.getElem?_cons_succ, List.head?_cons, List.drop_succ_cons, List.drop_zero, List.take_succ_cons, List.take_zero, List.length_cons, List.length_nil, List.all_cons, List.all_nil, List.map_cons, List.map_nil, Nat.reduceAdd, Nat.reduceLeDiff, Nat.reduceEqDiff, Nat.reduceSub, Nat.zero_add, Nat.le_refl, Int.toNat_zero, Int.reduceToNat, Int.toNat_natCast, and_self, and_true, true_and, if_true, if_false, ↓reduceIte, Bool.and_true, Bool.and_self, Bool.true_and, Bool.false_eq_true, reduceCtorEq, AV.isSize, beq_self_eq_true, decide_true, decide_false, List.nil_append, forall_const, Bool.not_true, Bool.not_false, imp_self, true_implies, false_implies, List.getD_cons_zero, List.getD_cons_succ, Int.reduceLE, Int.reduceLT, Int.cast_ofNat_Int, bne_self_eq_false]
      refine ⟨fun q2 => ?_, fun q2 => ?_⟩
      · have : decide (a = b) = false := by
          rw [decide_eq_false_iff_not]; intro e; subst e; simp at q2
        rw [this] at hk
        exact hk _ e1
      · rw [w64 (by omega) (by omega)]
        refine ⟨_, by omega, e1, i + 1, rfl, rfl, by omega, fun j hj => ?_⟩
        by_cases z : j = i
        · subst z; simpa using q2
        · exact hp j (by omega)
    · simp only [decide_eq_false_iff_not, Int.ofNat_lt] at q
      have : decide (a = b) = true := by
        rw [decide_eq_true_eq]
        exact list_eq_of_take [] a b hab fun j hj => hp j (by omega)
      rw [this] at hk
      exact hk _ e1
theorem c21 {a b : List Ent} {x y : AV} (hx : Slc 5 (a.map Ent.av) x) (hy : Slc 5 (b.map Ent.av) y) (hl : a.length ≤ 1000000) (hk : ∀ h', Ext h h' → k (.bool (decide (a = b))) h') : SCalls Tryz.prog W0 21 [x, y] h k := by
  refine W21_ok ?_
  unfold W21
  rw [hx.ln, hy.ln]
  try simp only [go_sem, EH.n_push, EH.n_set, List.getElem?_cons_zero, List.getElem?_cons_succ, List.head?_cons, List.drop_succ_cons, List.drop_zero, List.take_succ_cons, List.take_zero, List.length_cons, List.length_nil, List.all_cons, List.all_nil, List.map_cons, List.map_nil, Nat.reduceAdd, Nat.reduceLeDiff, Nat.reduceEqDiff, Nat.reduceSub, Nat.zero_add, Nat.le_refl, Int.toNat_zero, Int.reduceToNat, Int.toNat_natCast, and_self, and_true, true_and, if_true, if_false, ↓reduceIte, Bool.and_true, Bool.and_self, Bool.true_and, Bool.false_eq_true, reduceCtorEq, AV.isSize, beq_self_eq_true, decide_true, decide_false, List.nil_append, forall_const, Bool.not_true, Bool.not_false, imp_self, true_implies, false_implies, List.getD_cons_zero, List.getD_cons_succ, Int.reduceLE, Int.reduceLT, Int.cast_ofNat_Int, bne_self_eq_false, List.length_map]
  refine ⟨fun q => ?_, fun q => ?_⟩
  · have : decide (a = b) = false := by
      rw [decide_eq_false_iff_not]; intro e; subst e; simp at q
    rw [this] at hk
    exact hk _ (.refl _)
  · have hab : a.length = b.length := by simp at q; omega
    refine ⟨fun n v h' => Ext h h' ∧ ∃ i : Nat, v = .int .i64 i ∧ n = a.length - i ∧ i ≤ a.length ∧ ∀ j, j < i → a.getD j ent0 = b.getD j ent0, _, ⟨.refl h, 0, rfl, rfl, by omega, fun j hj => by omega⟩, ?_⟩
    rintro n v h1 ⟨e1, i, rfl, rfl, hi, hp⟩
    rw [hx.ln]
    try simp only [go_sem, EH.n_push, EH.n_set, List.getElem?_cons_zero, List.getElem?_cons_succ, List.head?_cons, List.drop_succ_cons, List.drop_zero, List.take_succ_cons, List.take_zero, List.length_cons, List.length_nil, List.all_cons, List.all_nil, List.map_cons, List.map_nil, Nat.reduceAdd, Nat.reduceLeDiff, Nat.reduceEqDiff, Nat.reduceSub, Nat.zero_add, Nat.le_refl, Int.toNat_zero, Int.reduceToNat, Int.toNat_natCast, and_self, and_true, true_and, if_true, if_false, ↓reduceIte, Bool.and_true, Bool.and_self, Bool.true_and, Bool.false_eq_true, reduceCtorEq, AV.isSize, beq_self_eq_true, decide_true, decide_false, List.nil_append, forall_const, Bool.not_true, Bool.not_false, imp_self, true_implies, false_implies, List.getD_cons_zero, List.getD_cons_succ, Int.reduceLE, Int.reduceLT, Int.cast_ofNat_Int, bne_self_eq_false, List.length_map]
    refine ⟨fun q => ?_, fun q => ?_⟩
    · simp only [decide_eq_true_eq, Int.ofNat_lt] at q
      rw [hx.ia]
      refine ⟨by rw [List.length_map]; omega, ?_⟩
      simp only [Int.toNat_natCast]
      rw [ent_cells a i q]
      try simp only [go_sem, EH.n_push, EH.n_set, List.getElem?_cons_zero, List.getElem?_cons_succ, List.head?_cons, List.drop_succ_cons, List.drop_zero, List.take_succ_cons, List.take_zero, List.length_cons, List.length_nil, List.all_cons, List.all_nil, List.map_cons, List.map_nil, Nat.reduceAdd, Nat.reduceLeDiff, Nat.reduceEqDiff, Nat.reduceSub, Nat.zero_add, Nat.le_refl, Int.toNat_zero, Int.reduceToNat, Int.toNat_natCast, and_self, and_true, true_and, if_true, if_false, ↓reduceIte, Bool.and_true, Bool.and_self, Bool.true_and, Bool.false_eq_true, reduceCtorEq, AV.isSize, beq_self_eq_true, decide_true, decide_false, List.nil_append, forall_const, Bool.not_true, Bool.not_false, imp_self, true_implies, false_implies, List.getD_cons_zero, List.getD_cons_succ, Int.reduceLE, Int.reduceLT, Int.cast_ofNat_Int, bne_self_eq_false]
      rw [hy.ia]
      refine ⟨by rw [List.length_map]; omega, ?_⟩
      simp only [Int.toNat_natCast]
      rw [ent_cells b i (by omega)]
      try simp only [go_sem, EH.n_push, EH.n_set, List.getElem?_cons_zero, List.getElem?_cons_succ, List.head?_cons, List.drop_succ_cons, List.drop_zero, List.take_succ_cons, List.take_zero, List.length_cons, List.length_nil, List.all_cons, List.all_nil, List.map_cons, List.map_nil, Nat.reduceAdd, Nat.reduceLeDiff, Nat.reduceEqDiff, Nat.reduceSub, Nat.zero_add, Nat.le_refl, Int.toNat_zero, Int.reduceToNat, Int.toNat_natCast, and_self, and_true, true_and, if_true, if_false, ↓reduceIte, Bool.and_true, Bool.and_self, Bool.true_and, Bool.false_eq_true, reduceCtorEq, AV.isSize, beq_self_eq_true, decide_true, decide_false, List.nil_append, forall_const, Bool.not_true, Bool.not_false, imp_self, true_implies, false_implies, List.getD_cons_zero, List.getD_cons_succ, Int.reduceLE, Int.reduceLT, Int.cast_ofNat_Int, bne_self_eq_false, ent_eqs]
      refine ⟨fun q2 => ?_, fun q2 => ?_⟩
      · have : decide (a = b) = false := by
          rw [decide_eq_false_iff_not]; intro e; subst e; simp at q2
        rw [this] at hk
        exact hk _ e1
      · rw [w64 (by omega) (by omega)]
        refine ⟨_, by omega, e1, i + 1, rfl, rfl, by omega, fun j hj => ?_⟩
        by_cases z : j = i
        · subst z; simpa using q2
        · exact hp j (by omega)
    · simp only [decide_eq_false_iff_not, Int.ofNat_lt] at q
      have : decide (a = b) = true := by
        rw [decide_eq_true_eq]
        exact list_eq_of_take ent0 a b hab fun j hj => hp j (by omega)
      rw [this] at hk
      exact hk _ e1
end
end Go.Proofs.YtnpkhnlcpeebcaaGreatDoor
/- Contracts: the document's reader of module files. -/
set_option maxRecDepth 100000
namespace Go.Proofs.YtnpkhnlcpeebcaaGreatDoor
open Go Go.Qa Go.Proofs

/-- It does not stand behind the last name. -/
def stale (ns : List (List UInt8)) (a : List UInt8) : Bool := decide (0 < (ns.length : Int)) && !Op.bytesLess (ns.getD (ns.length - 1) []) a
/-- The lines of entities, one after another. -/
def rdL : List (List UInt8) → List (List UInt8) → List Ent → Option (List (List UInt8) × List Ent)
  | [], ns, es => some (ns, es)
  | l :: ls, ns, es => match entS l with
    | none => none
    | some (a, b, c, k, r, p) => if stale ns a = true then none else rdL ls (ns ++ [a]) (es ++ [⟨b, c, k, r, p == 1⟩])
abbrev modW : List UInt8 := [109, 111, 100, 117, 108, 101]
/-- What a module file says. -/
def readS (t : List UInt8) : Option (List UInt8 × Int × List (List UInt8) × List Ent) :=
  if ((spl 10 t).length : Int) < 2 ∨ (spl 10 t).getD ((spl 10 t).length - 1) [] ≠ [] then none else
  match spl 32 ((spl 10 t).getD 0 []) with
  | [a, m, n] => if a = modW ∧ isNm m = true ∧ n = Lib.itoa (ver 0 0 (t.drop (((spl 10 t).getD 0 []).length + 1))) then
      match rdL (((spl 10 t).take ((spl 10 t).length - 1)).drop 1) [] [] with
      | some (ns, es) => some (m, ver 0 0 (t.drop (((spl 10 t).getD 0 []).length + 1)), ns, es)
      | none => none
    else none
  | _ => none
def failR : AV := .tup [.str [], .int .i64 0, .pl (.slice none 0 0), .pl (.slice none 0 0), .int .i64 3]
def ReadR (o : Option (List UInt8 × Int × List (List UInt8) × List Ent)) (r : AV) : Prop := match o with
  | none => r = failR
  | some (m, n, ns, es) => ∃ a b, r = .tup [.str m, .int .i64 n, a, b, .int .i64 0] ∧ Slc 1 (ns.map .str) a ∧ Slc 5 (es.map Ent.av) b
theorem threeW {α : Type} {G : Prop} (l : List α) (h3 : ∀ a b c, l = [a, b, c] → G) (hn : l.length ≠ 3 → G) : G := by
  match l, h3, hn with
  | [a, b, c], h3, _ => exact h3 a b c rfl
  | [], _, hn => exact hn (by simp)
  | [_], _, hn => exact hn (by simp)
  | [_, _], _, hn => exact hn (by simp)
  | _ :: _ :: _ :: _ :: _, _, hn => exact hn (by simp)
theorem ver_bounds : ∀ (s : List UInt8) (i : Nat) (n : Int), 0 ≤ n ∧ n < 65521 → 0 ≤ ver i n s ∧ ver i n s < 65521
  | [], i, n, h => h
  | b :: l, i, n, h => ver_bounds l (i + 1) _ (verF_lt h.1)
theorem spl_first (c : UInt8) : ∀ s : List UInt8, ((spl c s).getD 0 []).length ≤ s.length ∧ (2 ≤ (spl c s).length → ((spl c s).getD 0 []).length + 1 ≤ s.length)
  | [] => by simp [spl]
  | b :: l => by
    have ih := spl_first c l
    simp only [spl]
    split
    · simp
    · have h1 := spl_len1 c l
      split
      · rename_i x r e
        rw [e] at ih
        simp at ih ⊢
        exact ⟨ih.1, fun h => by have := ih.2 (by simpa using h); omega⟩
      · rename_i e; rw [e] at h1; simp at h1
section
variable {W0 : World} {h : EH} {k : AV → EH → Prop} {c : Int} {s : List UInt8} {m : Int}
theorem fail_of {o : Option (List UInt8 × Int × List (List UInt8) × List Ent)} (e : o = none) (hk : ∀ h' r, Ext h h' → ReadR o r → k r h') {h' : EH} (x : Ext h h') : k failR h' := hk _ _ x (by rw [e]; rfl)
theorem entR_none {r : AV} (h : EntR none r) : ∃ a b c k rk p, r = .tup [.str a, .agg [.str b, .str c, .int .i64 k, .int .i64 rk, .bool p], .bool false] := h
theorem tup_fail : ReadR none failR := rfl
theorem last_get {α : Type} (ns : List (List UInt8)) (h : 0 < ns.length) : ((ns.map AV.str).getD (ns.length - 1) .any).cells = [.str (ns.getD (ns.length - 1) [])] := str_getD ns _ (by omega)
theorem c20 (ws : WS W0) (hl : s.length ≤ 3000) (hk : ∀ h' r, Ext h h' → ReadR (readS s) r → k r h') : SCalls Tryz.prog W0 20 [.str s] h k := by
  refine W20_ok ?_
  unfold W20
  refine ca_i rfl (split_ok ws (by omega) ?_)
  have hs := spl_len 10 s
  have hs1 := spl_len1 10 s
  have hmem : ∀ p ∈ spl 10 s, p.length ≤ s.length := fun p hp => spl_mem hp
  have hfst := spl_first 10 s
  unfold readS at hk
  generalize spl 10 s = ls at hk hs hs1 hmem hfst
  have hgm : ∀ i, i < ls.length → (ls.getD i []).length ≤ s.length := fun i hi => hmem _ (by rw [List.getD_eq_getElem?_getD, List.getElem?_eq_getElem hi]; exact List.getElem_mem hi)
  try simp only [go_sem, EH.n_push, EH.n_set, List.getElem?_cons_zero, List.getElem?_cons_succ, List.head?_cons, List.drop_succ_cons, List.drop_zero, List.take_succ_cons, List.take_zero, List.length_cons, List.length_nil, List.all_cons, List.all_nil, List.map_cons, List.map_nil, Nat.reduceAdd, Nat.reduceLeDiff, Nat.reduceEqDiff, Nat.reduceSub, Nat.zero_add, Nat.le_refl, Int.toNat_zero, Int.reduceToNat, Int.toNat_natCast, and_self, and_true, true_and, if_true, if_false, ↓reduceIte, Bool.and_true, Bool.and_self, Bool.true_and, Bool.false_eq_true, reduceCtorEq, AV.isSize, beq_self_eq_true, decide_true, decide_false, List.nil_append, forall_const, Bool.not_true, Bool.not_false, imp_self, true_implies, false_implies, List.getD_cons_zero, List.getD_cons_succ, Int.reduceLE, Int.reduceLT, Int.cast_ofNat_Int, bne_self_eq_false, List.length_map]
  refine or_i (b := !(ls.getD (ls.length - 1) [] == [])) (fun q J hJ => ?_) (fun h1 e1 => ?_)
  · simp only [decide_eq_false_iff_not] at q
    try simp only [go_sem, EH.n_push, EH.n_set, List.getElem?_cons_zero, List.getElem?_cons_succ, List.head?_cons, List.drop_succ_cons, List.drop_zero, List.take_succ_cons, List.take_zero, List.length_cons, List.length_nil, List.all_cons, List.all_nil, List.map_cons, List.map_nil, Nat.reduceAdd, Nat.reduceLeDiff, Nat.reduceEqDiff, Nat.reduceSub, Nat.zero_add, Nat.le_refl, Int.toNat_zero, Int.reduceToNat, Int.toNat_natCast, and_self, and_true, true_and, if_true, if_false, ↓reduceIte, Bool.and_true, Bool.and_self, Bool.true_and, Bool.false_eq_true, reduceCtorEq, AV.isSize, beq_self_eq_true, decide_true, decide_false, List.nil_append, forall_const, Bool.not_true, Bool.not_false, imp_self, true_implies, false_implies, List.getD_cons_zero, List.getD_cons_succ, Int.reduceLE, Int.reduceLT, Int.cast_ofNat_Int, bne_self_eq_false]
    rw [w64 (by omega) (by omega)]
    refine ⟨by omega, ?_⟩
    rw [show ((ls.length : Int) - 1).toNat = ls.length - 1 by omega, str_getD ls _ (by omega)]
    try simp only [go_sem, EH.n_push, EH.n_set, List.getElem?_cons_zero, List.getElem?_cons_succ, List.head?_cons, List.drop_succ_cons, List.drop_zero, List.take_succ_cons, List.take_zero, List.length_cons, List.length_nil, List.all_cons, List.all_nil, List.map_cons, List.map_nil, Nat.reduceAdd, Nat.reduceLeDiff, Nat.reduceEqDiff, Nat.reduceSub, Nat.zero_add, Nat.le_refl, Int.toNat_zero, Int.reduceToNat, Int.toNat_natCast, and_self, and_true, true_and, if_true, if_false, ↓reduceIte, Bool.and_true, Bool.and_self, Bool.true_and, Bool.false_eq_true, reduceCtorEq, AV.isSize, beq_self_eq_true, decide_true, decide_false, List.nil_append, forall_const, Bool.not_true, Bool.not_false, imp_self, true_implies, false_implies, List.getD_cons_zero, List.getD_cons_succ, Int.reduceLE, Int.reduceLT, Int.cast_ofNat_Int, bne_self_eq_false]
    exact hJ _ (.refl _)
  · try simp only [go_sem, EH.n_push, EH.n_set, List.getElem?_cons_zero, List.getElem?_cons_succ, List.head?_cons, List.drop_succ_cons, List.drop_zero, List.take_succ_cons, List.take_zero, List.length_cons, List.length_nil, List.all_cons, List.all_nil, List.map_cons, List.map_nil, Nat.reduceAdd, Nat.reduceLeDiff, Nat.reduceEqDiff, Nat.reduceSub, Nat.zero_add, Nat.le_refl, Int.toNat_zero, Int.reduceToNat, Int.toNat_natCast, and_self, and_true, true_and, if_true, if_false, ↓reduceIte, Bool.and_true, Bool.and_self, Bool.true_and, Bool.false_eq_true, reduceCtorEq, AV.isSize, beq_self_eq_true, decide_true, decide_false, List.nil_append, forall_const, Bool.not_true, Bool.not_false, imp_self, true_implies, false_implies, List.getD_cons_zero, List.getD_cons_succ, Int.reduceLE, Int.reduceLT, Int.cast_ofNat_Int, bne_self_eq_false]
    refine ⟨fun q => ?_, fun q => ?_⟩
    · refine hk _ _ e1 ?_
      rw [if_pos]
      · exact tup_fail
      · simp only [Bool.or_eq_true, decide_eq_true_eq] at q
        rcases q with q | q
        · exact .inl q
        · right; simpa using q
    · have hc : ¬ ((ls.length : Int) < 2 ∨ ls.getD (ls.length - 1) [] ≠ []) := by
        simp only [Bool.or_eq_false_iff, decide_eq_false_iff_not] at q
        rintro (z | z)
        · exact q.1 z
        · have := q.2
          simp at this
          exact z (by simpa using this)
      rw [if_neg hc] at hk
      have h2 : 2 ≤ ls.length := by omega
      refine ⟨by omega, ?_⟩
      rw [str_getD ls 0 (by omega)]
      try simp only [go_sem, EH.n_push, EH.n_set, List.getElem?_cons_zero, List.getElem?_cons_succ, List.head?_cons, List.drop_succ_cons, List.drop_zero, List.take_succ_cons, List.take_zero, List.length_cons, List.length_nil, List.all_cons, List.all_nil, List.map_cons, List.map_nil, Nat.reduceAdd, Nat.reduceLeDiff, Nat.reduceEqDiff, Nat.reduceSub, Nat.zero_add, Nat.le_refl, Int.toNat_zero, Int.reduceToNat, Int.toNat_natCast, and_self, and_true, true_and, if_true, if_false, ↓reduceIte, Bool.and_true, Bool.and_self, Bool.true_and, Bool.false_eq_true, reduceCtorEq, AV.isSize, beq_self_eq_true, decide_true, decide_false, List.nil_append, forall_const, Bool.not_true, Bool.not_false, imp_self, true_implies, false_implies, List.getD_cons_zero, List.getD_cons_succ, Int.reduceLE, Int.reduceLT, Int.cast_ofNat_Int, bne_self_eq_false]
      refine ca_i rfl (split_ok ws (by have := hgm 0 (by omega); omega) ?_)
      have hw := spl_len 32 (ls.getD 0 [])
      have hwm : ∀ p ∈ spl 32 (ls.getD 0 []), p.length ≤ (ls.getD 0 []).length := fun p hp => spl_mem hp
      have h0l := hgm 0 (by omega)
      generalize hwe : spl 32 (ls.getD 0 []) = ws' at hk hw hwm
      refine threeW ws' (fun wa wm wn he => ?_) (fun hne => ?_)
      · subst he
        have hla := hwm wa (by simp)
        have hlm := hwm wm (by simp)
        have hln := hwm wn (by simp)
        simp only at hk
        try simp only [go_sem, EH.n_push, EH.n_set, List.getElem?_cons_zero, List.getElem?_cons_succ, List.head?_cons, List.drop_succ_cons, List.drop_zero, List.take_succ_cons, List.take_zero, List.length_cons, List.length_nil, List.all_cons, List.all_nil, List.map_cons, List.map_nil, Nat.reduceAdd, Nat.reduceLeDiff, Nat.reduceEqDiff, Nat.reduceSub, Nat.zero_add, Nat.le_refl, Int.toNat_zero, Int.reduceToNat, Int.toNat_natCast, and_self, and_true, true_and, if_true, if_false, ↓reduceIte, Bool.and_true, Bool.and_self, Bool.true_and, Bool.false_eq_true, reduceCtorEq, AV.isSize, beq_self_eq_true, decide_true, decide_false, List.nil_append, forall_const, Bool.not_true, Bool.not_false, imp_self, true_implies, false_implies, List.getD_cons_zero, List.getD_cons_succ, Int.reduceLE, Int.reduceLT, Int.cast_ofNat_Int, bne_self_eq_false]
        refine join_i (x := AV.bool (!(wa == modW))) (h := h1) (fun J hJ => ?_) (fun h3 e3 => ?_)
        · exact hJ _ (.refl _)
        · refine or_i (b := ?_) (fun q J hJ => ?_) (fun h5 e5 => ?_); rotate_left
          · refine ca_i rfl (c54 fun h6 e6 => ?_)
            try simp only [go_sem, EH.n_push, EH.n_set, List.getElem?_cons_zero, List.getElem?_cons_succ, List.head?_cons, List.drop_succ_cons, List.drop_zero, List.take_succ_cons, List.take_zero, List.length_cons, List.length_nil, List.all_cons, List.all_nil, List.map_cons, List.map_nil, Nat.reduceAdd, Nat.reduceLeDiff, Nat.reduceEqDiff, Nat.reduceSub, Nat.zero_add, Nat.le_refl, Int.toNat_zero, Int.reduceToNat, Int.toNat_natCast, and_self, and_true, true_and, if_true, if_false, ↓reduceIte, Bool.and_true, Bool.and_self, Bool.true_and, Bool.false_eq_true, reduceCtorEq, AV.isSize, beq_self_eq_true, decide_true, decide_false, List.nil_append, forall_const, Bool.not_true, Bool.not_false, imp_self, true_implies, false_implies, List.getD_cons_zero, List.getD_cons_succ, Int.reduceLE, Int.reduceLT, Int.cast_ofNat_Int, bne_self_eq_false]
            exact hJ _ e6
          · have E5 := (e1.trans e3).trans e5
            try simp only [go_sem, EH.n_push, EH.n_set, List.getElem?_cons_zero, List.getElem?_cons_succ, List.head?_cons, List.drop_succ_cons, List.drop_zero, List.take_succ_cons, List.take_zero, List.length_cons, List.length_nil, List.all_cons, List.all_nil, List.map_cons, List.map_nil, Nat.reduceAdd, Nat.reduceLeDiff, Nat.reduceEqDiff, Nat.reduceSub, Nat.zero_add, Nat.le_refl, Int.toNat_zero, Int.reduceToNat, Int.toNat_natCast, and_self, and_true, true_and, if_true, if_false, ↓reduceIte, Bool.and_true, Bool.and_self, Bool.true_and, Bool.false_eq_true, reduceCtorEq, AV.isSize, beq_self_eq_true, decide_true, decide_false, List.nil_append, forall_const, Bool.not_true, Bool.not_false, imp_self, true_implies, false_implies, List.getD_cons_zero, List.getD_cons_succ, Int.reduceLE, Int.reduceLT, Int.cast_ofNat_Int, bne_self_eq_false]
            refine ⟨fun q => ?_, fun q => ?_⟩
            · refine hk _ _ E5 ?_
              rw [if_neg]
              · exact tup_fail
              · rintro ⟨a, b, _⟩
                rw [a, b] at q
                simp at q
            · have qa : wa = modW := by
                simp only [Bool.or_eq_false_iff] at q
                simpa using q.1
              have qm : isNm wm = true := by
                simp only [Bool.or_eq_false_iff] at q
                simpa using q.2
              refine ⟨by omega, ?_⟩
              have hf2 := hfst.2 h2
              rw [w64 (by omega) (by omega)]
              refine ⟨by omega, ?_⟩
              rw [show (((ls.getD 0 []).length : Int) + 1).toNat = (ls.getD 0 []).length + 1 by omega]
              refine ca_i rfl (c55 (by rw [List.length_drop]; omega) fun h6 e6 => ?_)
              have hv := ver_bounds (s.drop ((ls.getD 0 []).length + 1)) 0 0 (by omega)
              generalize ver 0 0 (s.drop ((ls.getD 0 []).length + 1)) = vn at hk hv
              try simp only [go_sem, EH.n_push, EH.n_set, List.getElem?_cons_zero, List.getElem?_cons_succ, List.head?_cons, List.drop_succ_cons, List.drop_zero, List.take_succ_cons, List.take_zero, List.length_cons, List.length_nil, List.all_cons, List.all_nil, List.map_cons, List.map_nil, Nat.reduceAdd, Nat.reduceLeDiff, Nat.reduceEqDiff, Nat.reduceSub, Nat.zero_add, Nat.le_refl, Int.toNat_zero, Int.reduceToNat, Int.toNat_natCast, and_self, and_true, true_and, if_true, if_false, ↓reduceIte, Bool.and_true, Bool.and_self, Bool.true_and, Bool.false_eq_true, reduceCtorEq, AV.isSize, beq_self_eq_true, decide_true, decide_false, List.nil_append, forall_const, Bool.not_true, Bool.not_false, imp_self, true_implies, false_implies, List.getD_cons_zero, List.getD_cons_succ, Int.reduceLE, Int.reduceLT, Int.cast_ofNat_Int, bne_self_eq_false]
              refine ca_i rfl (itoa_ok ws (by omega) (by omega) ?_)
              try simp only [go_sem, EH.n_push, EH.n_set, List.getElem?_cons_zero, List.getElem?_cons_succ, List.head?_cons, List.drop_succ_cons, List.drop_zero, List.take_succ_cons, List.take_zero, List.length_cons, List.length_nil, List.all_cons, List.all_nil, List.map_cons, List.map_nil, Nat.reduceAdd, Nat.reduceLeDiff, Nat.reduceEqDiff, Nat.reduceSub, Nat.zero_add, Nat.le_refl, Int.toNat_zero, Int.reduceToNat, Int.toNat_natCast, and_self, and_true, true_and, if_true, if_false, ↓reduceIte, Bool.and_true, Bool.and_self, Bool.true_and, Bool.false_eq_true, reduceCtorEq, AV.isSize, beq_self_eq_true, decide_true, decide_false, List.nil_append, forall_const, Bool.not_true, Bool.not_false, imp_self, true_implies, false_implies, List.getD_cons_zero, List.getD_cons_succ, Int.reduceLE, Int.reduceLT, Int.cast_ofNat_Int, bne_self_eq_false]
              have E6 := E5.trans e6
              refine ⟨fun q2 => ?_, fun q2 => ?_⟩
              · refine hk _ _ E6 ?_
                rw [if_neg]
                · exact tup_fail
                · rintro ⟨_, _, z⟩
                  rw [z] at q2; simp at q2
              · have qn : wn = Lib.itoa vn := by simpa using q2
                rw [if_pos ⟨qa, qm, qn⟩] at hk
                have hdl : ∀ i, 1 ≤ i → i < ls.length - 1 → (ls.take (ls.length - 1)).drop i = ls.getD i [] :: (ls.take (ls.length - 1)).drop (i + 1) := fun i h1 h2 => by
                  rw [List.drop_eq_getElem_cons (by rw [List.length_take]; omega), List.getD_eq_getElem?_getD, List.getElem?_eq_getElem (by omega), List.getElem_take]
                  rfl
                refine ⟨fun n v25 v26 v27 h' => Ext h h' ∧ ∃ (i : Nat) (ns : List (List UInt8)) (es : List Ent), v27 = .int .i64 i ∧ n = ls.length - i ∧ 1 ≤ i ∧ i ≤ ls.length - 1 ∧ ns.length < i ∧ es.length < i ∧
                    App h' 1 (ns.map .str) v25 ∧ App h' 5 (es.map Ent.av) v26 ∧ (∀ t, tok v25 = some t → h.n ≤ t ∧ tok v26 ≠ some t) ∧ (∀ t, tok v26 = some t → h.n ≤ t) ∧
                    rdL ((ls.take (ls.length - 1)).drop i) ns es = rdL ((ls.take (ls.length - 1)).drop 1) [] [], _, ⟨E6, 1, [], [], rfl, rfl, by omega, by omega, by simp, by simp, .nil _ _, .nil _ _, (fun t q => by cases q), (fun t q => by cases q), rfl⟩, ?_⟩
                rintro n v25 v26 v27 h8 ⟨e8, i, ns, es, rfl, rfl, hi1, hi2, hns, hes, a25, a26, t25, t26, hr⟩
                try simp only [go_sem, EH.n_push, EH.n_set, List.getElem?_cons_zero, List.getElem?_cons_succ, List.head?_cons, List.drop_succ_cons, List.drop_zero, List.take_succ_cons, List.take_zero, List.length_cons, List.length_nil, List.all_cons, List.all_nil, List.map_cons, List.map_nil, Nat.reduceAdd, Nat.reduceLeDiff, Nat.reduceEqDiff, Nat.reduceSub, Nat.zero_add, Nat.le_refl, Int.toNat_zero, Int.reduceToNat, Int.toNat_natCast, and_self, and_true, true_and, if_true, if_false, ↓reduceIte, Bool.and_true, Bool.and_self, Bool.true_and, Bool.false_eq_true, reduceCtorEq, AV.isSize, beq_self_eq_true, decide_true, decide_false, List.nil_append, forall_const, Bool.not_true, Bool.not_false, imp_self, true_implies, false_implies, List.getD_cons_zero, List.getD_cons_succ, Int.reduceLE, Int.reduceLT, Int.cast_ofNat_Int, bne_self_eq_false, List.length_map]
                rw [w64 (by omega) (by omega)]
                refine ⟨fun q => ?_, fun q => ?_⟩
                · simp only [decide_eq_true_eq] at q
                  have hil : i < ls.length - 1 := by omega
                  rw [hdl i hi1 hil] at hr
                  refine ⟨by omega, ?_⟩
                  rw [str_getD ls i (by omega)]
                  try simp only [go_sem, EH.n_push, EH.n_set, List.getElem?_cons_zero, List.getElem?_cons_succ, List.head?_cons, List.drop_succ_cons, List.drop_zero, List.take_succ_cons, List.take_zero, List.length_cons, List.length_nil, List.all_cons, List.all_nil, List.map_cons, List.map_nil, Nat.reduceAdd, Nat.reduceLeDiff, Nat.reduceEqDiff, Nat.reduceSub, Nat.zero_add, Nat.le_refl, Int.toNat_zero, Int.reduceToNat, Int.toNat_natCast, and_self, and_true, true_and, if_true, if_false, ↓reduceIte, Bool.and_true, Bool.and_self, Bool.true_and, Bool.false_eq_true, reduceCtorEq, AV.isSize, beq_self_eq_true, decide_true, decide_false, List.nil_append, forall_const, Bool.not_true, Bool.not_false, imp_self, true_implies, false_implies, List.getD_cons_zero, List.getD_cons_succ, Int.reduceLE, Int.reduceLT, Int.cast_ofNat_Int, bne_self_eq_false]
                  refine ca_i rfl (c57 ws (by have := hgm i (by omega); omega) fun h9 r9 e9 n9 => ?_)
                  have b25 := a25.ext e9
                  have b26 := a26.ext e9
                  have E9 := e8.trans e9
                  simp only [rdL] at hr
                  cases hent : entS (ls.getD i []) with
                  | none =>
                    rw [hent] at n9 hr
                    obtain ⟨xa, xb, xc, xk, xr, xp, rfl⟩ := entR_none n9
                    try simp only [go_sem, EH.n_push, EH.n_set, List.getElem?_cons_zero, List.getElem?_cons_succ, List.head?_cons, List.drop_succ_cons, List.drop_zero, List.take_succ_cons, List.take_zero, List.length_cons, List.length_nil, List.all_cons, List.all_nil, List.map_cons, List.map_nil, Nat.reduceAdd, Nat.reduceLeDiff, Nat.reduceEqDiff, Nat.reduceSub, Nat.zero_add, Nat.le_refl, Int.toNat_zero, Int.reduceToNat, Int.toNat_natCast, and_self, and_true, true_and, if_true, if_false, ↓reduceIte, Bool.and_true, Bool.and_self, Bool.true_and, Bool.false_eq_true, reduceCtorEq, AV.isSize, beq_self_eq_true, decide_true, decide_false, List.nil_append, forall_const, Bool.not_true, Bool.not_false, imp_self, true_implies, false_implies, List.getD_cons_zero, List.getD_cons_succ, Int.reduceLE, Int.reduceLT, Int.cast_ofNat_Int, bne_self_eq_false, List.getElem?_cons_zero]
                    refine join_i (x := .pl undef) (fun J hJ => hJ _ (.refl _)) (fun h12 e12 => ?_)
                    refine hk _ _ ((ext_set (b := h9.n) (E9.trans (.push _ _)) E9.1).trans e12) ?_
                    rw [← hr]
                    exact tup_fail
                  | some en =>
                    obtain ⟨xa, xb, xc, xk, xr, xp⟩ := en
                    rw [hent] at n9 hr
                    simp only at hr
                    have n9' : r9 = .tup [.str xa, .agg [.str xb, .str xc, .int .i64 xk, .int .i64 xr, .bool (xp == 1)], .bool true] := n9
                    subst n9'
                    try simp only [go_sem, EH.n_push, EH.n_set, List.getElem?_cons_zero, List.getElem?_cons_succ, List.head?_cons, List.drop_succ_cons, List.drop_zero, List.take_succ_cons, List.take_zero, List.length_cons, List.length_nil, List.all_cons, List.all_nil, List.map_cons, List.map_nil, Nat.reduceAdd, Nat.reduceLeDiff, Nat.reduceEqDiff, Nat.reduceSub, Nat.zero_add, Nat.le_refl, Int.toNat_zero, Int.reduceToNat, Int.toNat_natCast, and_self, and_true, true_and, if_true, if_false, ↓reduceIte, Bool.and_true, Bool.and_self, Bool.true_and, Bool.false_eq_true, reduceCtorEq, AV.isSize, beq_self_eq_true, decide_true, decide_false, List.nil_append, forall_const, Bool.not_true, Bool.not_false, imp_self, true_implies, false_implies, List.getD_cons_zero, List.getD_cons_succ, Int.reduceLE, Int.reduceLT, Int.cast_ofNat_Int, bne_self_eq_false, List.getElem?_cons_zero]
                    refine join_i (x := AV.bool (stale ns xa)) (h := (h9.push (.cells [.str [], .str [], .int .i64 0, .int .i64 0, .bool false])).set h9.n (.cells [.str xb, .str xc, .int .i64 xk, .int .i64 xr, .bool (xp == 1)])) (fun J hJ => ?_) (fun h12 e12 => ?_)
                    · rw [b25.slc.ln]
                      try simp only [go_sem, EH.n_push, EH.n_set, List.getElem?_cons_zero, List.getElem?_cons_succ, List.head?_cons, List.drop_succ_cons, List.drop_zero, List.take_succ_cons, List.take_zero, List.length_cons, List.length_nil, List.all_cons, List.all_nil, List.map_cons, List.map_nil, Nat.reduceAdd, Nat.reduceLeDiff, Nat.reduceEqDiff, Nat.reduceSub, Nat.zero_add, Nat.le_refl, Int.toNat_zero, Int.reduceToNat, Int.toNat_natCast, and_self, and_true, true_and, if_true, if_false, ↓reduceIte, Bool.and_true, Bool.and_self, Bool.true_and, Bool.false_eq_true, reduceCtorEq, AV.isSize, beq_self_eq_true, decide_true, decide_false, List.nil_append, forall_const, Bool.not_true, Bool.not_false, imp_self, true_implies, false_implies, List.getD_cons_zero, List.getD_cons_succ, Int.reduceLE, Int.reduceLT, Int.cast_ofNat_Int, bne_self_eq_false, List.length_map]
                      refine and_i (b := !Op.bytesLess (ns.getD (ns.length - 1) []) xa) (fun q J6 hJ6 => ?_) (fun h17 e17 => ?_)
                      · simp only [decide_eq_true_eq] at q
                        rw [b25.slc.ln]
                        try simp only [go_sem, EH.n_push, EH.n_set, List.getElem?_cons_zero, List.getElem?_cons_succ, List.head?_cons, List.drop_succ_cons, List.drop_zero, List.take_succ_cons, List.take_zero, List.length_cons, List.length_nil, List.all_cons, List.all_nil, List.map_cons, List.map_nil, Nat.reduceAdd, Nat.reduceLeDiff, Nat.reduceEqDiff, Nat.reduceSub, Nat.zero_add, Nat.le_refl, Int.toNat_zero, Int.reduceToNat, Int.toNat_natCast, and_self, and_true, true_and, if_true, if_false, ↓reduceIte, Bool.and_true, Bool.and_self, Bool.true_and, Bool.false_eq_true, reduceCtorEq, AV.isSize, beq_self_eq_true, decide_true, decide_false, List.nil_append, forall_const, Bool.not_true, Bool.not_false, imp_self, true_implies, false_implies, List.getD_cons_zero, List.getD_cons_succ, Int.reduceLE, Int.reduceLT, Int.cast_ofNat_Int, bne_self_eq_false, List.length_map]
                        rw [w64 (by omega) (by omega), b25.slc.ia]
                        refine ⟨by rw [List.length_map]; omega, ?_⟩
                        rw [show ((ns.length : Int) - 1).toNat = ns.length - 1 by omega, str_getD ns _ (by omega)]
                        try simp only [go_sem, EH.n_push, EH.n_set, List.getElem?_cons_zero, List.getElem?_cons_succ, List.head?_cons, List.drop_succ_cons, List.drop_zero, List.take_succ_cons, List.take_zero, List.length_cons, List.length_nil, List.all_cons, List.all_nil, List.map_cons, List.map_nil, Nat.reduceAdd, Nat.reduceLeDiff, Nat.reduceEqDiff, Nat.reduceSub, Nat.zero_add, Nat.le_refl, Int.toNat_zero, Int.reduceToNat, Int.toNat_natCast, and_self, and_true, true_and, if_true, if_false, ↓reduceIte, Bool.and_true, Bool.and_self, Bool.true_and, Bool.false_eq_true, reduceCtorEq, AV.isSize, beq_self_eq_true, decide_true, decide_false, List.nil_append, forall_const, Bool.not_true, Bool.not_false, imp_self, true_implies, false_implies, List.getD_cons_zero, List.getD_cons_succ, Int.reduceLE, Int.reduceLT, Int.cast_ofNat_Int, bne_self_eq_false]
                        exact hJ6 _ (.refl _)
                      · exact hJ _ e17
                    · have hbox0 : ((h9.push (.cells [.str [], .str [], .int .i64 0, .int .i64 0, .bool false])).set h9.n (.cells [.str xb, .str xc, .int .i64 xk, .int .i64 xr, .bool (xp == 1)])).get h9.n = some (.cells [.str xb, .str xc, .int .i64 xk, .int .i64 xr, .bool (xp == 1)]) := get_set_eq rfl (by rw [EH.n_push]; omega)
                      have hbox := e12.get hbox0
                      have eb : Ext h9 ((h9.push (.cells [.str [], .str [], .int .i64 0, .int .i64 0, .bool false])).set h9.n (.cells [.str xb, .str xc, .int .i64 xk, .int .i64 xr, .bool (xp == 1)])) := ext_set (b := h9.n) (.push _ _) (Nat.le_refl _)
                      have e12' := eb.trans e12
                      have E12 := E9.trans e12'
                      have hn12 := e12'.1
                      have hbl := EH.get_lt hbox
                      have d25 := b25.ext e12'
                      have d26 := b26.ext e12'
                      try simp only [go_sem, EH.n_push, EH.n_set, List.getElem?_cons_zero, List.getElem?_cons_succ, List.head?_cons, List.drop_succ_cons, List.drop_zero, List.take_succ_cons, List.take_zero, List.length_cons, List.length_nil, List.all_cons, List.all_nil, List.map_cons, List.map_nil, Nat.reduceAdd, Nat.reduceLeDiff, Nat.reduceEqDiff, Nat.reduceSub, Nat.zero_add, Nat.le_refl, Int.toNat_zero, Int.reduceToNat, Int.toNat_natCast, and_self, and_true, true_and, if_true, if_false, ↓reduceIte, Bool.and_true, Bool.and_self, Bool.true_and, Bool.false_eq_true, reduceCtorEq, AV.isSize, beq_self_eq_true, decide_true, decide_false, List.nil_append, forall_const, Bool.not_true, Bool.not_false, imp_self, true_implies, false_implies, List.getD_cons_zero, List.getD_cons_succ, Int.reduceLE, Int.reduceLT, Int.cast_ofNat_Int, bne_self_eq_false]
                      refine ⟨fun q => ?_, fun q => ?_⟩
                      · rw [if_pos q] at hr
                        refine hk _ _ E12 ?_
                        rw [← hr]
                        exact tup_fail
                      · rw [if_neg (by rw [q]; simp)] at hr
                        rw [hbox]
                        try simp only [go_sem, EH.n_push, EH.n_set, List.getElem?_cons_zero, List.getElem?_cons_succ, List.head?_cons, List.drop_succ_cons, List.drop_zero, List.take_succ_cons, List.take_zero, List.length_cons, List.length_nil, List.all_cons, List.all_nil, List.map_cons, List.map_nil, Nat.reduceAdd, Nat.reduceLeDiff, Nat.reduceEqDiff, Nat.reduceSub, Nat.zero_add, Nat.le_refl, Int.toNat_zero, Int.reduceToNat, Int.toNat_natCast, and_self, and_true, true_and, if_true, if_false, ↓reduceIte, Bool.and_true, Bool.and_self, Bool.true_and, Bool.false_eq_true, reduceCtorEq, AV.isSize, beq_self_eq_true, decide_true, decide_false, List.nil_append, forall_const, Bool.not_true, Bool.not_false, imp_self, true_implies, false_implies, List.getD_cons_zero, List.getD_cons_succ, Int.reduceLE, Int.reduceLT, Int.cast_ofNat_Int, bne_self_eq_false]
                        have tl25 : ∀ t, tok v25 = some t → t < h9.n := fun t e => b25.tok_lt e
                        have tl26 : ∀ t, tok v26 = some t → t < h9.n := fun t e => b26.tok_lt e
                        refine app1 d25 (by rw [List.length_map]; unfold roomMax; omega) fun v45 h15 a45 t45 n15 f15 => ?_
                        rw [f15 h9.n (by omega) (fun e => by have := tl25 _ e; omega), hbox]
                        try simp only [go_sem, EH.n_push, EH.n_set, List.getElem?_cons_zero, List.getElem?_cons_succ, List.head?_cons, List.drop_succ_cons, List.drop_zero, List.take_succ_cons, List.take_zero, List.length_cons, List.length_nil, List.all_cons, List.all_nil, List.map_cons, List.map_nil, Nat.reduceAdd, Nat.reduceLeDiff, Nat.reduceEqDiff, Nat.reduceSub, Nat.zero_add, Nat.le_refl, Int.toNat_zero, Int.reduceToNat, Int.toNat_natCast, and_self, and_true, true_and, if_true, if_false, ↓reduceIte, Bool.and_true, Bool.and_self, Bool.true_and, Bool.false_eq_true, reduceCtorEq, AV.isSize, beq_self_eq_true, decide_true, decide_false, List.nil_append, forall_const, Bool.not_true, Bool.not_false, imp_self, true_implies, false_implies, List.getD_cons_zero, List.getD_cons_succ, Int.reduceLE, Int.reduceLT, Int.cast_ofNat_Int, bne_self_eq_false]
                        have d26' : App h15 5 (es.map Ent.av) v26 := d26.keep fun t e => f15 t (by have := tl26 t e; omega) (fun e' => (t25 t e').2 e)
                        refine app1 d26' (by rw [List.length_map]; unfold roomMax; omega) fun v46 h16 a46 t46 n16 f16 => ?_
                        have tn26 : tok v26 ≠ some h12.n := fun e => by have := tl26 _ e; omega
                        refine ⟨ls.length - (i + 1), by omega, ⟨by have := E12.1; omega, fun j hj => ?_⟩, i + 1, ns ++ [xa], es ++ [⟨xb, xc, xk, xr, xp == 1⟩], ?_, rfl, by omega, by omega, by simp; omega, by simp; omega, ?_, ?_, (fun t e => ?_), (fun t e => ?_), hr⟩
                        · have hj9 := E9.1
                          rw [f16 j (by omega) (fun e => by have := t26 j e; omega), f15 j (by omega) (fun e => by have := (t25 j e).1; omega)]
                          exact E12.2 j hj
                        · rw [w64 (by omega) (by omega)]; simp
                        · rw [List.map_append]
                          exact a45.keep fun t e => by
                            rw [t45] at e; cases e
                            exact f16 _ (by omega) tn26
                        · rw [List.map_append]; exact a46
                        · rw [t45] at e; cases e
                          refine ⟨by have := E12.1; omega, fun e => ?_⟩
                          rw [t46] at e
                          have := Option.some.inj e
                          omega
                        · rw [t46] at e; cases e
                          have := E12.1; omega
                · simp only [decide_eq_false_iff_not] at q
                  have hie : i = ls.length - 1 := by omega
                  have hd : (ls.take (ls.length - 1)).drop i = [] := List.drop_eq_nil_of_le (by rw [List.length_take]; omega)
                  rw [hd] at hr
                  simp only [rdL] at hr
                  rw [← hr] at hk
                  try simp only [go_sem, EH.n_push, EH.n_set, List.getElem?_cons_zero, List.getElem?_cons_succ, List.head?_cons, List.drop_succ_cons, List.drop_zero, List.take_succ_cons, List.take_zero, List.length_cons, List.length_nil, List.all_cons, List.all_nil, List.map_cons, List.map_nil, Nat.reduceAdd, Nat.reduceLeDiff, Nat.reduceEqDiff, Nat.reduceSub, Nat.zero_add, Nat.le_refl, Int.toNat_zero, Int.reduceToNat, Int.toNat_natCast, and_self, and_true, true_and, if_true, if_false, ↓reduceIte, Bool.and_true, Bool.and_self, Bool.true_and, Bool.false_eq_true, reduceCtorEq, AV.isSize, beq_self_eq_true, decide_true, decide_false, List.nil_append, forall_const, Bool.not_true, Bool.not_false, imp_self, true_implies, false_implies, List.getD_cons_zero, List.getD_cons_succ, Int.reduceLE, Int.reduceLT, Int.cast_ofNat_Int, bne_self_eq_false, a25.slc.glob, a26.slc.glob]
                  exact hk _ _ e8 ⟨v25, v26, rfl, a25.slc, a26.slc⟩
      · try simp only [go_sem, EH.n_push, EH.n_set, List.getElem?_cons_zero, List.getElem?_cons_succ, List.head?_cons, List.drop_succ_cons, List.drop_zero, List.take_succ_cons, List.take_zero, List.length_cons, List.length_nil, List.all_cons, List.all_nil, List.map_cons, List.map_nil, Nat.reduceAdd, Nat.reduceLeDiff, Nat.reduceEqDiff, Nat.reduceSub, Nat.zero_add, Nat.le_refl, Int.toNat_zero, Int.reduceToNat, Int.toNat_natCast, and_self, and_true, true_and, if_true, if_false, ↓reduceIte, Bool.and_true, Bool.and_self, Bool.true_and, Bool.false_eq_true, reduceCtorEq, AV.isSize, beq_self_eq_true, decide_true, decide_false, List.nil_append, forall_const, Bool.not_true, Bool.not_false, imp_self, true_implies, false_implies, List.getD_cons_zero, List.getD_cons_succ, Int.reduceLE, Int.reduceLT, Int.cast_ofNat_Int, bne_self_eq_false, List.length_map]
        have hb : ((ws'.length : Int) != 3) = true := by rw [bne_iff_ne]; omega
        rw [hb]
        refine or_i (b := true) (t := true) (fun q J hJ => by cases q) (fun h3 e3 => ?_)
        try simp only [go_sem, EH.n_push, EH.n_set, List.getElem?_cons_zero, List.getElem?_cons_succ, List.head?_cons, List.drop_succ_cons, List.drop_zero, List.take_succ_cons, List.take_zero, List.length_cons, List.length_nil, List.all_cons, List.all_nil, List.map_cons, List.map_nil, Nat.reduceAdd, Nat.reduceLeDiff, Nat.reduceEqDiff, Nat.reduceSub, Nat.zero_add, Nat.le_refl, Int.toNat_zero, Int.reduceToNat, Int.toNat_natCast, and_self, and_true, true_and, if_true, if_false, ↓reduceIte, Bool.and_true, Bool.and_self, Bool.true_and, Bool.false_eq_true, reduceCtorEq, AV.isSize, beq_self_eq_true, decide_true, decide_false, List.nil_append, forall_const, Bool.not_true, Bool.not_false, imp_self, true_implies, false_implies, List.getD_cons_zero, List.getD_cons_succ, Int.reduceLE, Int.reduceLT, Int.cast_ofNat_Int, bne_self_eq_false, Bool.true_or]
        refine join_i (x := .pl undef) (fun J hJ => hJ _ (.refl _)) (fun h4 e4 => ?_)
        try simp only [go_sem, EH.n_push, EH.n_set, List.getElem?_cons_zero, List.getElem?_cons_succ, List.head?_cons, List.drop_succ_cons, List.drop_zero, List.take_succ_cons, List.take_zero, List.length_cons, List.length_nil, List.all_cons, List.all_nil, List.map_cons, List.map_nil, Nat.reduceAdd, Nat.reduceLeDiff, Nat.reduceEqDiff, Nat.reduceSub, Nat.zero_add, Nat.le_refl, Int.toNat_zero, Int.reduceToNat, Int.toNat_natCast, and_self, and_true, true_and, if_true, if_false, ↓reduceIte, Bool.and_true, Bool.and_self, Bool.true_and, Bool.false_eq_true, reduceCtorEq, AV.isSize, beq_self_eq_true, decide_true, decide_false, List.nil_append, forall_const, Bool.not_true, Bool.not_false, imp_self, true_implies, false_implies, List.getD_cons_zero, List.getD_cons_succ, Int.reduceLE, Int.reduceLT, Int.cast_ofNat_Int, bne_self_eq_false, Bool.true_or]
        refine hk _ _ ((e1.trans e3).trans e4) ?_
        split
        · rename_i a b c; exact absurd rfl hne
        · exact tup_fail
end
end Go.Proofs.YtnpkhnlcpeebcaaGreatDoor
/- The abstract machine: loops over functions, annotated: the round. -/
namespace Go.Qa
open Go Go.RowKit

def roundAG (P : Program) (W0 : World) (b : Nat) (bc : ACode) (Q : AV → AHeap → Prop) : AQ
  | .normal, st, H => match H[b]? with
    | some (.loop false ss ps asg body none) => ∃ st', AS.le st' st ∧ awpG P W0 bc (roundQ b Q) st' (H.set b (.loop true ss ps asg body none))
    | _ => False
  | _, _, _ => False

section
variable {P : Program} {W0 : World} {G0 : Ghost} {w0 : World} {N : Nat} {G : Ghost} {L : Nat → Option Nat} {H : AHeap} {w : World}
theorem ayieldsG_of {b : Nat} {ss : List AV} {ps : List Nat} {asg body : Code} {hs : List Nat} {ac bc : ACode} {args : List AV} {Q : AV → AHeap → Prop} (hb : H[b]? = some (.loop false ss ps asg body none)) (ha : cCode P ss.length hs asg = some ac) (hac : codeCalm asg = true)
    (hbo : cCode P ss.length hs body = some bc) (hbc : codeCalm body = true) (hl : args.length = ps.length) (k : awpG P W0 ac (roundAG P W0 b bc Q) (roundS ss ps args) H) : AYields P W0 b args H Q := by
  intro G w l vs n hi hbx hv
  obtain ⟨B', r, p1, p2, p3, p4, p5, p6, p7, p8⟩ := hi.obj b _ hb
  rw [hbx] at p1; cases p1
  have base : Rel W0 G w ss.length G (fun _ => none) { s := fun i => ss.getD i .any, loc := fun _ => none } H { tmps := r.tmps, defers := [] } w := by
    refine { bw := hi.base.size, next := .refl G w, inv := hi, defers := .nil _ _ _, size := by simpa using p8.1, slots := fun t ht => .of ?_, locs := fun t cs e => by simp at e, linj := fun t t' B e => by simp at e, lrefs := fun t i off ht e => ?_, pnds := .nil fun _ => rfl }
    · have := p8.2 t ht
      rw [List.getD_eq_getElem?_getD (l := r.tmps.toList)] at this
      rw [Array.getD_eq_getD_getElem?]
      simpa using this
    · have := p8.2 t ht
      simp only at e
      rw [e] at this
      cases this
  have hrel := base.puts ps args vs hv hl
  have efold : (r.params.zip vs.toArray).foldl (fun tmps (p : Tmp × Value) => tmps.setIfInBounds p.1 p.2) r.tmps = (ps.zip vs).foldl (fun tmps p => tmps.setIfInBounds p.1 p.2) r.tmps := by
    rw [p5]; simp
  have hsz : vs.toArray.size = r.params.size := by rw [p5]; simp [hv.1, hl]
  refine ⟨r.fn, _, r.assign, r.body, run_yield p2 hsz, ?_⟩
  refine roundIn_of_wpIn trivial ?_
  have efold' : (r.params.zip vs.toArray).foldl (fun tmps (x : Tmp × Value) => match x with | (t, a) => tmps.setIfInBounds t a) r.tmps = (ps.zip vs).foldl (fun tmps p => tmps.setIfInBounds p.1 p.2) r.tmps := efold
  first | rw [efold'] | rw [efold] | skip
  rw [p6, p7]
  refine Go.wpIn_mono (code_soundG (ro := some l) asg ac _ (.inr hac) ha hrel k) (fun e ca w1 q => ?_)
  have hloop : ∀ {H1 : AHeap} {G1 : Ghost} {w1 : World} {busy : Bool} {ss1 : List AV} {ps1 : List Nat} {asg1 body1 : Code} {pend1 : Option Code}, HInv W0 H1 G1 w1 → G.le G1 → H1[b]? = some (.loop busy ss1 ps1 asg1 body1 pend1) →
      ∃ r1 : Loop, G1.bx b = some l ∧ w1.heap[l]? = some (.loop r1) ∧ r1.state = (if busy then .busy else if pend1.isNone then .ready else .done) ∧ ∀ (busy' : Bool) (pend' : Option Code),
        HInv W0 (H1.set b (.loop busy' ss1 ps1 asg1 body1 pend')) G1 (w1.putObj l (.loop { r1 with state := (if busy' then .busy else if pend'.isNone then .ready else .done), pending := pend' })) ∧
        Next G1 w1 G1 (w1.putObj l (.loop { r1 with state := (if busy' then .busy else if pend'.isNone then .ready else .done), pending := pend' })) := by
    intro H1 G1 w1 busy ss1 ps1 asg1 body1 pend1 hi1 hle hb1
    obtain ⟨B1, r1, q1, q2, q3, q4, q5, q6, q7, q8⟩ := hi1.obj b _ hb1
    have := hle.bx b l hbx
    rw [q1] at this
    cases this
    refine ⟨r1, q1, q2, q3, fun busy' pend' => ?_⟩
    exact hi1.setObj b l _ (.loop busy' ss1 ps1 asg1 body1 pend') _ hb1 q1 (by simp) (by simp) (fun c t f z => by rw [q2] at z; cases z) (fun w' hw' => ⟨l, _, q1, hw', rfl, rfl, q5, q6, q7, q8⟩)
  cases e with
  | normal =>
    obtain ⟨st1, H1, k1, G1, L1, h1⟩ := q
    simp only [roundAG] at k1
    split at k1
    rotate_left
    · exact k1.elim
    rename_i ss1 ps1 asg1 body1 hb1
    obtain ⟨st1', hle1, k1⟩ := k1
    have h1 := h1.weak hle1
    obtain ⟨r1, q1, q2, q3, hput⟩ := hloop h1.inv h1.next.le hb1
    obtain ⟨hi2, hn2⟩ := hput true none
    have hpend : r1.pending = none := by
      obtain ⟨B1, r1', z1, z2, z3, z4, _⟩ := h1.inv.obj b _ hb1
      rw [q1] at z1; cases z1
      rw [q2] at z2; cases z2
      exact z4
    have e1 : ({ r1 with state := .busy } : Loop) = { r1 with state := (if (true : Bool) then .busy else if (none : Option Code).isNone then .ready else .done), pending := none } := by
      cases r1; simp_all
    refine ⟨_, run_beginRound q2 (by rw [q3]; rfl), ?_⟩
    rw [e1]
    refine Go.wpIn_mono (code_soundG (ro := some l) body bc _ (.inr hbc) hbo (h1.step hn2 hi2) k1) (fun e2 ca2 w2 qq => ?_)
    have fin : ∀ (pend : Option Code) (bb : Bool) (c : Option Code), bb = c.isNone → pend = c → ∀ st2 H2 G2 L2, Rel W0 G w ss.length G2 L2 st2 H2 ca2 w2 → ∀ ss2 ps2 asg2 body2 pend2, H2[b]? = some (.loop true ss2 ps2 asg2 body2 pend2) → Q (.bool bb) (H2.set b (.loop false ss2 ps2 asg2 body2 c)) →
        ∃ v w', (Instr.endRound l c).run P w2 = .ok v w' ∧ ∃ v' r H' G', Ending.returned v = .returned v' ∧ Q r H' ∧ Next G w G' w' ∧ HInv W0 H' G' w' ∧ VRel G' r v' := by
      intro pend bb c hbb hpc st2 H2 G2 L2 h2 ss2 ps2 asg2 body2 pend2 hb2 hq
      obtain ⟨r2, z1, z2, z3, hput2⟩ := hloop h2.inv h2.next.le hb2
      obtain ⟨hi3, hn3⟩ := hput2 false c
      refine ⟨.bool c.isNone, _, run_endRound c z2, _, .bool bb, _, G2, rfl, hq, h2.next.trans ?_, ?_, by rw [hbb]; exact .bool _⟩
      · simpa using hn3
      · simpa using hi3
    cases e2 with
    | normal =>
      obtain ⟨st2, H2, k2, G2, L2, h2⟩ := qq
      simp only [roundQ] at k2
      split at k2
      · rename_i hb2; exact fin none true none rfl rfl _ _ _ _ h2 _ _ _ _ _ hb2 k2
      · exact k2.elim
    | ret =>
      obtain ⟨st2, H2, k2, G2, L2, h2⟩ := qq
      simp only [roundQ] at k2
      split at k2
      · rename_i hb2; exact fin (some .ret) false (some .ret) rfl rfl _ _ _ _ h2 _ _ _ _ _ hb2 k2
      · exact k2.elim
    | exit id =>
      obtain ⟨st2, H2, k2, G2, L2, h2⟩ := qq
      simp only [roundQ] at k2
      split at k2
      · rename_i hb2; exact fin (some (.exit id)) false (some (.exit id)) rfl rfl _ _ _ _ h2 _ _ _ _ _ hb2 k2
      · exact k2.elim
    | _ => exact qq.elim
  | ret => obtain ⟨_, _, k1, _⟩ := q; exact k1.elim
  | exit id => obtain ⟨_, _, k1, _⟩ := q; exact k1.elim
  | _ => exact q.elim

/-- How a round's body is left. -/
noncomputable def roundQJ (b : Nat) (Q : AV → EH → Prop) : SQ := fun e s h =>
  match h.get b with
  | some (.loop true ss ps asg body _) => match e with
    | .normal => Q (.bool true) (h.set b (.loop false ss ps asg body none))
    | .ret => Q (.bool false) (h.set b (.loop false ss ps asg body (some .ret)))
    | .exit id => Q (.bool false) (h.set b (.loop false ss ps asg body (some (.exit id))))
  | _ => False
/-- What a round asks for. -/
noncomputable def roundJ (P : Program) (W0 : World) (b : Nat) (ja jb : JCode) (s : Tr AV) (h : EH) (Q : AV → EH → Prop) : Prop :=
  sj P W0 ja (fun e s h => match e with
    | .normal => match h.get b with
      | some (.loop false ss ps asg body none) => sj P W0 jb (roundQJ b Q) s (h.set b (.loop true ss ps asg body none))
      | _ => False
    | _ => False) s h
theorem syields_of {b : Nat} {ss : List AV} {ps : List Nat} {asg body : Code} {hs : List Nat} {ac bc : ACode} {ja jb : JCode} {args : List AV} {h : EH} {Q : AV → EH → Prop} (hb : h.get b = some (.loop false ss ps asg body none))
    (ha : cCode P ss.length hs asg = some ac) (hac : codeCalm asg = true) (hbo : cCode P ss.length hs body = some bc) (hbc : codeCalm body = true) (hja : strip ja = some ac) (hjb : strip jb = some bc) (hl : args.length = ps.length)
    (k : roundJ P W0 b ja jb (roundT ss ps args) h Q) : SYields P W0 b args h Q := by
  refine ayieldsG_of (hs := hs) (by rw [EH.get_list]; exact hb) ha hac hbo hbc hl ?_
  rw [← mkS_roundT]
  refine sj_ok ja ac _ h _ _ hja (fun x s h q => ?_) k
  cases x with
  | normal =>
    simp only at q
    split at q
    rotate_left
    · exact q.elim
    rename_i ss1 ps1 asg1 body1 hb1
    simp only [roundAG, EH.get_list, hb1]
    refine ⟨_, .refl _, ?_⟩
    rw [← EH.set_list _ _ _ (by rw [hb1]; simp)]
    refine sj_ok jb bc _ _ _ _ hjb (fun x s h q => ?_) q
    simp only [roundQJ] at q
    split at q
    rotate_left
    · exact q.elim
    rename_i ss2 ps2 asg2 body2 p2 hb2
    simp only [roundQ, EH.get_list, hb2]
    cases x <;> simp only at q ⊢ <;> exact ⟨_, (EH.set_list _ _ _ (by rw [hb2]; simp)).symm, q⟩
  | exit i => exact q.elim
  | ret => exact q.elim
end
/-! ### Words -/
/-- What stands in a function's first loop over a function. -/
def findRF : Code → Option (Code × Code)
  | .rangeFunc _ _ asg body => some (asg, body)
  | .seq a b => match findRF a with
    | some x => some x
    | none => findRF b
  | .cond _ a b => match findRF a with
    | some x => some x
    | none => findRF b
  | .block _ c => findRF c
  | .loop c => findRF c
  | _ => none
def rfA (fn : Func) : Code := match fn.body.bind findRF with
  | some x => x.1
  | none => .skip
def rfB (fn : Func) : Code := match fn.body.bind findRF with
  | some x => x.2
  | none => .skip
def acOf (P : Program) (N : Nat) (c : Code) : ACode := (cCode P N (List.range N) c).getD .no
noncomputable def outW (b : Nat) (Qn Qr : EH → Prop) (h : EH) : Prop :=
  match h.get b with
  | some (.loop false _ _ _ _ none) => Qn (h.set b .dead)
  | some (.loop false _ _ _ _ (some .ret)) => Qr (h.set b .dead)
  | some (.loop false _ _ _ _ (some (.exit _))) => False
  | _ => False
noncomputable def rg (P : Program) (W0 : World) (x : AV) (ss : List AV) (ps : List Nat) (asg body : Code) (h : EH) (Qn Qr : EH → Prop) : Prop :=
  match x with
  | .fn (.func g) first capt => (first ++ capt).all AV.glob = true ∧ SCalls P W0 g (first ++ .yfn h.n :: capt) (h.push (.loop false ss ps asg body none)) fun _ h' => outW h.n Qn Qr h'
  | _ => False
noncomputable def rbW (b : Nat) (h : EH) (k : EH → Prop) : Prop :=
  match h.get b with
  | some (.loop false ss ps asg body none) => k (h.set b (.loop true ss ps asg body none))
  | _ => False
noncomputable def rnW (b : Nat) (h : EH) (Q : AV → EH → Prop) : Prop :=
  match h.get b with
  | some (.loop true ss ps asg body _) => Q (.bool true) (h.set b (.loop false ss ps asg body none))
  | _ => False
noncomputable def rrW (b : Nat) (h : EH) (Q : AV → EH → Prop) : Prop :=
  match h.get b with
  | some (.loop true ss ps asg body _) => Q (.bool false) (h.set b (.loop false ss ps asg body (some .ret)))
  | _ => False
end Go.Qa
