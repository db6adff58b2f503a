/- Library contracts of the seat, turned to the abstract machine: Split, Cut, HasSuffix, TrimSuffix, IndexByte, Itoa, Atoi. -/
import Derived.Test.YtnpkhnlcpeebcaaGreatDoorQs10
import Derived.Test.YtnpkhnlcpeebcaaGreatDoorPsJ
import Derived.Lib.SplitLaws
import Derived.Lib.ItoaLen
import Derived.Lib.AtoiErrMem
import Derived.Lib.AppendIntMem
import Derived.Test.YtnpkhnlcpeebcaaGreatDoorPsW1
import Derived.Lib.AtoiAllCases
set_option linter.all false
namespace Go.Proofs.YtnpkhnlcpeebcaaGreatDoor
open Go Go.Qa Go.Proofs Go.RowKit

/-- A text cut at each byte c. -/
def spl (c : UInt8) : List UInt8 → List (List UInt8)
  | [] => [[]]
  | b :: l => if b = c then [] :: spl c l else match spl c l with
    | x :: r => (b :: x) :: r
    | [] => [[b]]
theorem splitK_spl (c : UInt8) : ∀ s : List UInt8, Lib.splitK [c] 0 (Lib.count s [c]) s = spl c s
  | [] => by rw [Lib.count_one]; rfl
  | b :: l => by
    have ih := splitK_spl c l
    by_cases e : b = c
    · subst e
      rw [Lib.count_cons_eq, Nat.add_comm]
      simp only [Lib.splitK, Lib.index_one, Lib.indexByte, beq_self_eq_true, if_true, spl]
      simp [ih]
    · rw [Lib.count_cons_ne b c l e]
      simp only [spl, if_neg e, ← ih]
      rcases Lib.index_spec l [c] with ⟨h1, _⟩ | ⟨i, h1, _⟩
      · have h0 : Lib.count l [c] = 0 := Lib.count_miss h1
        rw [h0]; rfl
      · have h0 : ∃ n, Lib.count l [c] = n + 1 := by
          have := Lib.count_hit (s := l) (sub := [c]) (i := i) (by simp) h1
          exact ⟨_, by rw [this, Nat.add_comm]⟩
        obtain ⟨n, hn⟩ := h0
        have h2 : Lib.index (b :: l) [c] = (i + 1 : Nat) := by
          rw [Lib.index_one] at h1 ⊢
          have hb : (b == c) = false := by simpa using e
          simp only [Lib.indexByte, hb, h1]
          have : ((i : Int) == -1) = false := by rw [beq_eq_false_iff_ne]; omega
          simp [this]
        have h3 : ((i : Int) == -1) = false := by rw [beq_eq_false_iff_ne]; omega
        have h4 : (((i + 1 : Nat) : Int) == -1) = false := by rw [beq_eq_false_iff_ne]; omega
        rw [hn]
        simp only [Lib.splitK, h1, h2, h3, h4]
        simp
theorem split_spl (c : UInt8) (s : List UInt8) : Lib.split s [c] = spl c s := splitK_spl c s
theorem spl_mem {c : UInt8} : ∀ {s p : List UInt8}, p ∈ spl c s → p.length ≤ s.length
  | [], p, h => by simp [spl] at h; subst h; simp
  | b :: l, p, h => by
    simp only [spl] at h
    split at h
    · rcases List.mem_cons.1 h with rfl | h
      · simp
      · have := spl_mem h; simp; omega
    · split at h
      · rename_i x r e
        rcases List.mem_cons.1 h with rfl | h
        · have := spl_mem (c := c) (s := l) (p := x) (by rw [e]; simp)
          simp; omega
        · have := spl_mem (c := c) (s := l) (p := p) (by rw [e]; simp [h])
          simp; omega
      · simp at h; subst h; simp
theorem spl_len (c : UInt8) : ∀ s : List UInt8, (spl c s).length ≤ s.length + 1
  | [] => by simp [spl]
  | b :: l => by
    have := spl_len c l
    simp only [spl]
    split
    · simp; omega
    · split
      · rename_i x r e; rw [e] at this; simp at this ⊢; omega
      · simp

/-- What the library asks of the world's variables. -/
structure WS (W0 : World) : Prop where
  mx : ∃ m, W0.cell? ⟨0, 0, none⟩ = some (.int .i64 m)
  sy : ∃ ev, W0.cell? ⟨1, 0, none⟩ = some ev ∧ (ev = .nilIface ∨ ∃ te pe, ev = .iface te pe)
  rg : ∃ ev, W0.cell? ⟨2, 0, none⟩ = some ev ∧ (ev = .nilIface ∨ ∃ te pe, ev = .iface te pe)
  sz : 3 ≤ W0.heap.size
  tab : ∀ w, Below W0.heap.size W0 w → Lib.TabIs Tryz.prog w "internal/strconv.uint64pow10" .u64 Lib.pow10Tab
theorem below_cell {W0 w : World} (hb : Below W0.heap.size W0 w) {b : Nat} (hl : b < W0.heap.size) : w.cell? ⟨b, 0, none⟩ = W0.cell? ⟨b, 0, none⟩ := by
  simp only [World.cell?, hb.block b hl]
theorem str_inv {G : Ghost} {s : List UInt8} {args : List AV} {vs : List Value} (h : VRels G (.str s :: args) vs) : ∃ vs', vs = .string ⟨s.toArray⟩ :: vs' ∧ VRels G args vs' ∧ s.length ≤ maxLen := by
  obtain ⟨v, vs', rfl, r, h'⟩ := h.head
  cases r with
  | str _ hl => exact ⟨vs', rfl, h', hl⟩
theorem int_inv {G : Ghost} {q : IntKind} {n : Int} {args : List AV} {vs : List Value} (h : VRels G (.int q n :: args) vs) : ∃ vs', vs = .int q n :: vs' ∧ VRels G args vs' := by
  obtain ⟨v, vs', rfl, r, h'⟩ := h.head
  cases r; exact ⟨vs', rfl, h'⟩

section
variable {W0 : World} {h : EH} {k : AV → EH → Prop} {s : List UInt8}
theorem below_drewN' (w : World) (n : Nat) : Below w.heap.size w (w.drewN n) := ⟨rfl, rfl, rfl, Nat.le_refl _, fun _ _ => rfl⟩
theorem split_ok (ws : WS W0) {c : UInt8} (hs : s.length < 4294967281) (hk : k (.row none true 1 ((spl c s).map .str)) h) : SCalls Tryz.prog W0 46 [.str s, .str [c]] h k := by
  have hd : (Lib.splitB ⟨#[c]⟩ 0 (Lib.countB ⟨s.toArray⟩ ⟨#[c]⟩) ⟨s.toArray⟩).map (·.data.toList) = spl c s := by
    rw [Lib.splitB_data]
    exact splitK_spl c s
  have hll : (spl c s).length = Lib.countB ⟨s.toArray⟩ ⟨#[c]⟩ + 1 := by
    rw [← hd, List.length_map]
    exact Lib.splitB_all _ (by simp [ByteArray.size]) 0 _ _ rfl
  have hlen := spl_len c s
  refine SCalls.of_strs (Enters.of Tryz.func46 (by kernel_rfl) (by kernel_rfl)) (fun p hp => ?_) ?_ 9 (fun G w vs hi hv => ?_) hk
  · have := spl_mem hp
    unfold maxLen; omega
  · unfold maxLen; omega
  · obtain ⟨vs, rfl, hv, _⟩ := str_inv hv
    obtain ⟨vs, rfl, hv, _⟩ := str_inv hv
    have := hv.eq_nil
    subst this
    obtain ⟨m, hm⟩ := ws.mx
    have := Tryz.strings_Split ⟨s.toArray⟩ ⟨#[c]⟩ m w (by simpa [ByteArray.size] using hs) (by rw [below_cell hi.base (by have := ws.sz; omega)]; exact hm) (by simp [ByteArray.size])
    refine this.mono fun e w' ⟨e1, e2⟩ => ?_
    rw [hll]
    refine ⟨e1, ?_⟩
    rw [e2, ← hd, List.map_map]
    rfl
theorem cut_ok (ws : WS W0) {c : UInt8} (hs : s.length < 4294967281) (hk : k (.tup [.str (Lib.cut s [c]).1, .str (Lib.cut s [c]).2.1, .bool (Lib.cut s [c]).2.2]) h) : SCalls Tryz.prog W0 45 [.str s, .str [c]] h k := by
  refine SCalls.of_lib (Enters.of Tryz.func45 (by kernel_rfl) (by kernel_rfl)) (fun G w vs hi hv => ?_) hk
  obtain ⟨vs, rfl, hv, hl⟩ := str_inv hv
  obtain ⟨vs, rfl, hv, _⟩ := str_inv hv
  have := hv.eq_nil
  subst this
  obtain ⟨m, hm⟩ := ws.mx
  have := Tryz.strings_Cut ⟨s.toArray⟩ ⟨#[c]⟩ m w (by simpa [ByteArray.size] using hs) (by rw [below_cell hi.base (by have := ws.sz; omega)]; exact hm)
  refine this.mono fun e w' ⟨e1, n, e2⟩ => ?_
  refine ⟨_, e1, ?_, by rw [e2]; exact below_drewN' w n⟩
  have h1 : (Lib.cut s [c]).1.length ≤ maxLen := by
    unfold Lib.cut; split
    · simp only [List.length_take]; omega
    · exact hl
  have h2 : (Lib.cut s [c]).2.1.length ≤ maxLen := by
    unfold Lib.cut; split
    · simp only [List.length_drop]; omega
    · simp
  have vr : VRels G [.str (Lib.cut s [c]).1, .str (Lib.cut s [c]).2.1, .bool (Lib.cut s [c]).2.2] [.string ⟨(Lib.cut s [c]).1.toArray⟩, .string ⟨(Lib.cut s [c]).2.1.toArray⟩, .bool (Lib.cut s [c]).2.2] :=
    .cons (.str _ h1) (.cons (.str _ h2) (.cons (.bool _) (.nil G)))
  exact .tup _ _ vr.1 vr.2
theorem hasSuffix_ok {p : List UInt8} (hk : k (.bool (p.isSuffixOf s)) h) : SCalls Tryz.prog W0 50 [.str s, .str p] h k := by
  refine SCalls.of_lib (Enters.of Tryz.func50 (by kernel_rfl) (by kernel_rfl)) (fun G w vs hi hv => ?_) hk
  obtain ⟨vs, rfl, hv, hl⟩ := str_inv hv
  obtain ⟨vs, rfl, hv, _⟩ := str_inv hv
  have := hv.eq_nil
  subst this
  refine (Tryz.strings_HasSuffix ⟨s.toArray⟩ ⟨p.toArray⟩ w (by simpa [ByteArray.size, maxLen] using hl)).mono fun e w' ⟨e1, e2⟩ => ?_
  subst e2
  exact ⟨_, e1, .bool _, .refl _ _⟩
theorem trimSuffix_ok {p : List UInt8} (hk : k (.str (Lib.trimSuffix s p)) h) : SCalls Tryz.prog W0 53 [.str s, .str p] h k := by
  refine SCalls.of_lib (Enters.of Tryz.func53 (by kernel_rfl) (by kernel_rfl)) (fun G w vs hi hv => ?_) hk
  obtain ⟨vs, rfl, hv, hl⟩ := str_inv hv
  obtain ⟨vs, rfl, hv, _⟩ := str_inv hv
  have := hv.eq_nil
  subst this
  refine (Tryz.strings_TrimSuffix ⟨s.toArray⟩ ⟨p.toArray⟩ w (by simpa [ByteArray.size, maxLen] using hl)).mono fun e w' ⟨e1, e2⟩ => ?_
  subst e2
  refine ⟨_, e1, .str _ ?_, .refl _ _⟩
  unfold Lib.trimSuffix; split
  · simp only [List.length_take]; omega
  · exact hl
theorem indexByte_ok {c : Int} (hk : k (.int .i64 (Lib.indexByte s c.toNat.toUInt8)) h) : SCalls Tryz.prog W0 119 [.str s, .int .u8 c] h k := by
  refine SCalls.of_lib (Enters.of Tryz.func119 (by kernel_rfl) (by kernel_rfl)) (fun G w vs hi hv => ?_) hk
  obtain ⟨vs, rfl, hv, hl⟩ := str_inv hv
  obtain ⟨vs, rfl, hv2⟩ := int_inv hv
  have := hv2.eq_nil
  subst this
  refine (Tryz.strings_IndexByte ⟨s.toArray⟩ c w).mono fun e w' ⟨e1, e2⟩ => ?_
  subst e2
  exact ⟨_, e1, .int _ _, .refl _ _⟩
theorem itoa_ok (ws : WS W0) {n : Int} (h0 : -9223372036854775808 ≤ n) (h1 : n ≤ 9223372036854775807) (hk : k (.str (Lib.itoa n)) h) : SCalls Tryz.prog W0 56 [.int .i64 n] h k := by
  refine SCalls.of_lib (Enters.of Tryz.func56 (by kernel_rfl) (by kernel_rfl)) (fun G w vs hi hv => ?_) hk
  obtain ⟨vs, rfl, hv2⟩ := int_inv hv
  have := hv2.eq_nil
  subst this
  refine (Tryz.strconv_Itoa n h0 h1 w (ws.tab w hi.base)).mono fun e w' ⟨e1, n', os, e2⟩ => ?_
  refine ⟨_, e1, .str _ ?_, ?_⟩
  · have := Lib.itoa_length_le n h0 h1
    unfold maxLen; omega
  · subst e2; exact Lib.below_grow _ _ (Nat.le_refl _) _ _
/-- What Atoi answers: the number, and whether it is one. -/
def atoiN (s : List UInt8) : Int := match Lib.atoiAll s with
  | .ok v => v
  | .range => Lib.atoiSat s
  | _ => 0
def atoiB (s : List UInt8) : Bool := match Lib.atoiAll s with
  | .ok _ => true
  | _ => false
theorem atoi_ok (ws : WS W0) (hs : s.length ≤ 281474976710656) (hk : k (.tup [.int .i64 (atoiN s), if atoiB s = true then .pl .nilIface else .iface 273 .any]) h) : SCalls Tryz.prog W0 116 [.str s] h k := by
  refine SCalls.of_lib (Enters.of Tryz.func116 (by kernel_rfl) (by kernel_rfl)) (fun G w vs hi hv => ?_) hk
  obtain ⟨vs, rfl, hv, hl⟩ := str_inv hv
  have := hv.eq_nil
  subst this
  have sz : (ByteArray.mk s.toArray).size = s.length := by simp [ByteArray.size]
  have wsz := ws.sz
  have tup : ∀ (n : Int) (x : AV) (v : Value), VRel G x v → VRel G (.tup [.int .i64 n, x]) (.tuple #[.int .i64 n, v]) := fun n x v r => by
    have vr : VRels G [.int .i64 n, x] [.int .i64 n, v] := .cons (.int _ _) (.cons r (.nil G))
    exact .tup _ _ vr.1 vr.2
  rcases hr : Lib.atoiAll s with v | _ | _
  · have e1 : atoiN s = v := by simp only [atoiN, hr]
    have e2 : atoiB s = true := by simp only [atoiB, hr]
    rw [e1, e2]
    refine (Tryz.strconv_Atoi_ok ⟨s.toArray⟩ (by rw [sz]; omega) v hr w).mono fun e w' ⟨e1, e2⟩ => ⟨_, e1, tup _ _ _ (.pl _), ?_⟩
    rcases e2 with e2 | ⟨t, e2⟩
    · subst e2; exact .refl _ _
    · subst e2; exact Lib.bytesWorld_below _ _ _
  · have e1 : atoiN s = 0 := by simp only [atoiN, hr]
    have e2 : atoiB s = false := by simp only [atoiB, hr]
    rw [e1, e2]
    obtain ⟨ev, h1, h2⟩ := ws.sy
    refine (Tryz.strconv_Atoi_syntax ⟨s.toArray⟩ (by rw [sz]; exact hs) hr ev w (by rw [below_cell hi.base (by omega)]; exact h1) h2).mono fun e w' ⟨N, e1, e2, e3, e4⟩ => ⟨_, e1, tup _ _ _ (.iface _ _ _ (.any _)), e4⟩
  · have e1 : atoiN s = Lib.atoiSat s := by simp only [atoiN, hr]
    have e2 : atoiB s = false := by simp only [atoiB, hr]
    rw [e1, e2]
    obtain ⟨ev, h1, h2⟩ := ws.rg
    refine (Tryz.strconv_Atoi_range ⟨s.toArray⟩ (by rw [sz]; exact hs) hr ev w (by rw [below_cell hi.base (by omega)]; exact h1) h2).mono fun e w' ⟨N, e1, e2, e3, e4⟩ => ⟨_, e1, tup _ _ _ (.iface _ _ _ (.any _)), e4⟩
end
end Go.Proofs.YtnpkhnlcpeebcaaGreatDoor
/- Contracts: bytes and names, of the program and of the document. -/
set_option maxRecDepth 100000
namespace Go.Proofs.YtnpkhnlcpeebcaaGreatDoor
open Go Go.Qa Go.Proofs

def isDg (c : Int) : Bool := decide (48 ≤ c) && decide (c ≤ 57)
def isLt (c : Int) : Bool := decide (97 ≤ c) && decide (c ≤ 122) || decide (65 ≤ c) && decide (c ≤ 90)
def isPt (c : Int) : Bool := isLt c || isDg c || c == 95
section
variable {W0 : World} {h : EH} {k : AV → EH → Prop} {c : Int} {s : List UInt8}
theorem c178 (hk : ∀ h', Ext h h' → k (.bool (isDg c)) h') : SCalls Tryz.prog W0 178 [.int .u8 c] h k := by
  refine W178_ok ?_
  unfold W178
  try simp only [go_sem, EH.n_push, EH.n_set, List.getElem?_cons_zero, List.getElem?_cons_succ, List.head?_cons, List.drop_succ_cons, List.drop_zero, List.take_succ_cons, List.take_zero, List.length_cons, List.length_nil, List.all_cons, List.all_nil, List.map_cons, List.map_nil, Nat.reduceAdd, Nat.reduceLeDiff, Nat.reduceEqDiff, Nat.reduceSub, Nat.zero_add, Nat.le_refl, Int.toNat_zero, Int.reduceToNat, Int.toNat_natCast, and_self, and_true, true_and, if_true, if_false, ↓reduceIte, Bool.and_true, Bool.and_self, Bool.true_and, Bool.false_eq_true, reduceCtorEq, AV.isSize, beq_self_eq_true, decide_true, decide_false, List.nil_append, forall_const, Bool.not_true, Bool.not_false, imp_self, true_implies, false_implies, List.getD_cons_zero, List.getD_cons_succ, Int.reduceLE, Int.reduceLT, Int.cast_ofNat_Int, bne_self_eq_false]
  refine and_i (b := ?_) (fun q J hJ => ?_) (fun h' e => ?_); rotate_left
  · try simp only [go_sem, EH.n_push, EH.n_set, List.getElem?_cons_zero, List.getElem?_cons_succ, List.head?_cons, List.drop_succ_cons, List.drop_zero, List.take_succ_cons, List.take_zero, List.length_cons, List.length_nil, List.all_cons, List.all_nil, List.map_cons, List.map_nil, Nat.reduceAdd, Nat.reduceLeDiff, Nat.reduceEqDiff, Nat.reduceSub, Nat.zero_add, Nat.le_refl, Int.toNat_zero, Int.reduceToNat, Int.toNat_natCast, and_self, and_true, true_and, if_true, if_false, ↓reduceIte, Bool.and_true, Bool.and_self, Bool.true_and, Bool.false_eq_true, reduceCtorEq, AV.isSize, beq_self_eq_true, decide_true, decide_false, List.nil_append, forall_const, Bool.not_true, Bool.not_false, imp_self, true_implies, false_implies, List.getD_cons_zero, List.getD_cons_succ, Int.reduceLE, Int.reduceLT, Int.cast_ofNat_Int, bne_self_eq_false]
    exact hJ _ (.refl _)
  · try simp only [go_sem, EH.n_push, EH.n_set, List.getElem?_cons_zero, List.getElem?_cons_succ, List.head?_cons, List.drop_succ_cons, List.drop_zero, List.take_succ_cons, List.take_zero, List.length_cons, List.length_nil, List.all_cons, List.all_nil, List.map_cons, List.map_nil, Nat.reduceAdd, Nat.reduceLeDiff, Nat.reduceEqDiff, Nat.reduceSub, Nat.zero_add, Nat.le_refl, Int.toNat_zero, Int.reduceToNat, Int.toNat_natCast, and_self, and_true, true_and, if_true, if_false, ↓reduceIte, Bool.and_true, Bool.and_self, Bool.true_and, Bool.false_eq_true, reduceCtorEq, AV.isSize, beq_self_eq_true, decide_true, decide_false, List.nil_append, forall_const, Bool.not_true, Bool.not_false, imp_self, true_implies, false_implies, List.getD_cons_zero, List.getD_cons_succ, Int.reduceLE, Int.reduceLT, Int.cast_ofNat_Int, bne_self_eq_false]
    exact hk _ e
theorem c183 (hk : ∀ h', Ext h h' → k (.bool (isDg c)) h') : SCalls Tryz.prog W0 183 [.int .u8 c] h k := by
  refine W183_ok ?_
  unfold W183
  try simp only [go_sem, EH.n_push, EH.n_set, List.getElem?_cons_zero, List.getElem?_cons_succ, List.head?_cons, List.drop_succ_cons, List.drop_zero, List.take_succ_cons, List.take_zero, List.length_cons, List.length_nil, List.all_cons, List.all_nil, List.map_cons, List.map_nil, Nat.reduceAdd, Nat.reduceLeDiff, Nat.reduceEqDiff, Nat.reduceSub, Nat.zero_add, Nat.le_refl, Int.toNat_zero, Int.reduceToNat, Int.toNat_natCast, and_self, and_true, true_and, if_true, if_false, ↓reduceIte, Bool.and_true, Bool.and_self, Bool.true_and, Bool.false_eq_true, reduceCtorEq, AV.isSize, beq_self_eq_true, decide_true, decide_false, List.nil_append, forall_const, Bool.not_true, Bool.not_false, imp_self, true_implies, false_implies, List.getD_cons_zero, List.getD_cons_succ, Int.reduceLE, Int.reduceLT, Int.cast_ofNat_Int, bne_self_eq_false]
  refine and_i (b := ?_) (fun q J hJ => ?_) (fun h' e => ?_); rotate_left
  · try simp only [go_sem, EH.n_push, EH.n_set, List.getElem?_cons_zero, List.getElem?_cons_succ, List.head?_cons, List.drop_succ_cons, List.drop_zero, List.take_succ_cons, List.take_zero, List.length_cons, List.length_nil, List.all_cons, List.all_nil, List.map_cons, List.map_nil, Nat.reduceAdd, Nat.reduceLeDiff, Nat.reduceEqDiff, Nat.reduceSub, Nat.zero_add, Nat.le_refl, Int.toNat_zero, Int.reduceToNat, Int.toNat_natCast, and_self, and_true, true_and, if_true, if_false, ↓reduceIte, Bool.and_true, Bool.and_self, Bool.true_and, Bool.false_eq_true, reduceCtorEq, AV.isSize, beq_self_eq_true, decide_true, decide_false, List.nil_append, forall_const, Bool.not_true, Bool.not_false, imp_self, true_implies, false_implies, List.getD_cons_zero, List.getD_cons_succ, Int.reduceLE, Int.reduceLT, Int.cast_ofNat_Int, bne_self_eq_false]
    exact hJ _ (.refl _)
  · try simp only [go_sem, EH.n_push, EH.n_set, List.getElem?_cons_zero, List.getElem?_cons_succ, List.head?_cons, List.drop_succ_cons, List.drop_zero, List.take_succ_cons, List.take_zero, List.length_cons, List.length_nil, List.all_cons, List.all_nil, List.map_cons, List.map_nil, Nat.reduceAdd, Nat.reduceLeDiff, Nat.reduceEqDiff, Nat.reduceSub, Nat.zero_add, Nat.le_refl, Int.toNat_zero, Int.reduceToNat, Int.toNat_natCast, and_self, and_true, true_and, if_true, if_false, ↓reduceIte, Bool.and_true, Bool.and_self, Bool.true_and, Bool.false_eq_true, reduceCtorEq, AV.isSize, beq_self_eq_true, decide_true, decide_false, List.nil_append, forall_const, Bool.not_true, Bool.not_false, imp_self, true_implies, false_implies, List.getD_cons_zero, List.getD_cons_succ, Int.reduceLE, Int.reduceLT, Int.cast_ofNat_Int, bne_self_eq_false]
    exact hk _ e
theorem c112 (hk : ∀ h', Ext h h' → k (.bool (isLt c)) h') : SCalls Tryz.prog W0 112 [.int .u8 c] h k := by
  refine W112_ok ?_
  unfold W112
  try simp only [go_sem, EH.n_push, EH.n_set, List.getElem?_cons_zero, List.getElem?_cons_succ, List.head?_cons, List.drop_succ_cons, List.drop_zero, List.take_succ_cons, List.take_zero, List.length_cons, List.length_nil, List.all_cons, List.all_nil, List.map_cons, List.map_nil, Nat.reduceAdd, Nat.reduceLeDiff, Nat.reduceEqDiff, Nat.reduceSub, Nat.zero_add, Nat.le_refl, Int.toNat_zero, Int.reduceToNat, Int.toNat_natCast, and_self, and_true, true_and, if_true, if_false, ↓reduceIte, Bool.and_true, Bool.and_self, Bool.true_and, Bool.false_eq_true, reduceCtorEq, AV.isSize, beq_self_eq_true, decide_true, decide_false, List.nil_append, forall_const, Bool.not_true, Bool.not_false, imp_self, true_implies, false_implies, List.getD_cons_zero, List.getD_cons_succ, Int.reduceLE, Int.reduceLT, Int.cast_ofNat_Int, bne_self_eq_false]
  refine and_i (b := ?_) (fun q J hJ => ?_) (fun h1 e => ?_); rotate_left
  · try simp only [go_sem, EH.n_push, EH.n_set, List.getElem?_cons_zero, List.getElem?_cons_succ, List.head?_cons, List.drop_succ_cons, List.drop_zero, List.take_succ_cons, List.take_zero, List.length_cons, List.length_nil, List.all_cons, List.all_nil, List.map_cons, List.map_nil, Nat.reduceAdd, Nat.reduceLeDiff, Nat.reduceEqDiff, Nat.reduceSub, Nat.zero_add, Nat.le_refl, Int.toNat_zero, Int.reduceToNat, Int.toNat_natCast, and_self, and_true, true_and, if_true, if_false, ↓reduceIte, Bool.and_true, Bool.and_self, Bool.true_and, Bool.false_eq_true, reduceCtorEq, AV.isSize, beq_self_eq_true, decide_true, decide_false, List.nil_append, forall_const, Bool.not_true, Bool.not_false, imp_self, true_implies, false_implies, List.getD_cons_zero, List.getD_cons_succ, Int.reduceLE, Int.reduceLT, Int.cast_ofNat_Int, bne_self_eq_false]
    exact hJ _ (.refl _)
  · refine or_i (b := ?_) (fun q J hJ => ?_) (fun h2 e2 => ?_); rotate_left
    · try simp only [go_sem, EH.n_push, EH.n_set, List.getElem?_cons_zero, List.getElem?_cons_succ, List.head?_cons, List.drop_succ_cons, List.drop_zero, List.take_succ_cons, List.take_zero, List.length_cons, List.length_nil, List.all_cons, List.all_nil, List.map_cons, List.map_nil, Nat.reduceAdd, Nat.reduceLeDiff, Nat.reduceEqDiff, Nat.reduceSub, Nat.zero_add, Nat.le_refl, Int.toNat_zero, Int.reduceToNat, Int.toNat_natCast, and_self, and_true, true_and, if_true, if_false, ↓reduceIte, Bool.and_true, Bool.and_self, Bool.true_and, Bool.false_eq_true, reduceCtorEq, AV.isSize, beq_self_eq_true, decide_true, decide_false, List.nil_append, forall_const, Bool.not_true, Bool.not_false, imp_self, true_implies, false_implies, List.getD_cons_zero, List.getD_cons_succ, Int.reduceLE, Int.reduceLT, Int.cast_ofNat_Int, bne_self_eq_false]
      refine and_i (b := ?_) (fun q J3 hJ3 => ?_) (fun h3 e3 => ?_); rotate_left
      · try simp only [go_sem, EH.n_push, EH.n_set, List.getElem?_cons_zero, List.getElem?_cons_succ, List.head?_cons, List.drop_succ_cons, List.drop_zero, List.take_succ_cons, List.take_zero, List.length_cons, List.length_nil, List.all_cons, List.all_nil, List.map_cons, List.map_nil, Nat.reduceAdd, Nat.reduceLeDiff, Nat.reduceEqDiff, Nat.reduceSub, Nat.zero_add, Nat.le_refl, Int.toNat_zero, Int.reduceToNat, Int.toNat_natCast, and_self, and_true, true_and, if_true, if_false, ↓reduceIte, Bool.and_true, Bool.and_self, Bool.true_and, Bool.false_eq_true, reduceCtorEq, AV.isSize, beq_self_eq_true, decide_true, decide_false, List.nil_append, forall_const, Bool.not_true, Bool.not_false, imp_self, true_implies, false_implies, List.getD_cons_zero, List.getD_cons_succ, Int.reduceLE, Int.reduceLT, Int.cast_ofNat_Int, bne_self_eq_false]
        exact hJ3 _ (.refl _)
      · exact hJ _ e3
    · try simp only [go_sem, EH.n_push, EH.n_set, List.getElem?_cons_zero, List.getElem?_cons_succ, List.head?_cons, List.drop_succ_cons, List.drop_zero, List.take_succ_cons, List.take_zero, List.length_cons, List.length_nil, List.all_cons, List.all_nil, List.map_cons, List.map_nil, Nat.reduceAdd, Nat.reduceLeDiff, Nat.reduceEqDiff, Nat.reduceSub, Nat.zero_add, Nat.le_refl, Int.toNat_zero, Int.reduceToNat, Int.toNat_natCast, and_self, and_true, true_and, if_true, if_false, ↓reduceIte, Bool.and_true, Bool.and_self, Bool.true_and, Bool.false_eq_true, reduceCtorEq, AV.isSize, beq_self_eq_true, decide_true, decide_false, List.nil_append, forall_const, Bool.not_true, Bool.not_false, imp_self, true_implies, false_implies, List.getD_cons_zero, List.getD_cons_succ, Int.reduceLE, Int.reduceLT, Int.cast_ofNat_Int, bne_self_eq_false]
      exact hk _ (e.trans e2)
theorem c182 (hk : ∀ h', Ext h h' → k (.bool (isLt c)) h') : SCalls Tryz.prog W0 182 [.int .u8 c] h k := by
  refine W182_ok ?_
  unfold W182
  try simp only [go_sem, EH.n_push, EH.n_set, List.getElem?_cons_zero, List.getElem?_cons_succ, List.head?_cons, List.drop_succ_cons, List.drop_zero, List.take_succ_cons, List.take_zero, List.length_cons, List.length_nil, List.all_cons, List.all_nil, List.map_cons, List.map_nil, Nat.reduceAdd, Nat.reduceLeDiff, Nat.reduceEqDiff, Nat.reduceSub, Nat.zero_add, Nat.le_refl, Int.toNat_zero, Int.reduceToNat, Int.toNat_natCast, and_self, and_true, true_and, if_true, if_false, ↓reduceIte, Bool.and_true, Bool.and_self, Bool.true_and, Bool.false_eq_true, reduceCtorEq, AV.isSize, beq_self_eq_true, decide_true, decide_false, List.nil_append, forall_const, Bool.not_true, Bool.not_false, imp_self, true_implies, false_implies, List.getD_cons_zero, List.getD_cons_succ, Int.reduceLE, Int.reduceLT, Int.cast_ofNat_Int, bne_self_eq_false]
  refine and_i (b := ?_) (fun q J hJ => ?_) (fun h1 e => ?_); rotate_left
  · try simp only [go_sem, EH.n_push, EH.n_set, List.getElem?_cons_zero, List.getElem?_cons_succ, List.head?_cons, List.drop_succ_cons, List.drop_zero, List.take_succ_cons, List.take_zero, List.length_cons, List.length_nil, List.all_cons, List.all_nil, List.map_cons, List.map_nil, Nat.reduceAdd, Nat.reduceLeDiff, Nat.reduceEqDiff, Nat.reduceSub, Nat.zero_add, Nat.le_refl, Int.toNat_zero, Int.reduceToNat, Int.toNat_natCast, and_self, and_true, true_and, if_true, if_false, ↓reduceIte, Bool.and_true, Bool.and_self, Bool.true_and, Bool.false_eq_true, reduceCtorEq, AV.isSize, beq_self_eq_true, decide_true, decide_false, List.nil_append, forall_const, Bool.not_true, Bool.not_false, imp_self, true_implies, false_implies, List.getD_cons_zero, List.getD_cons_succ, Int.reduceLE, Int.reduceLT, Int.cast_ofNat_Int, bne_self_eq_false]
    exact hJ _ (.refl _)
  · refine or_i (b := ?_) (fun q J hJ => ?_) (fun h2 e2 => ?_); rotate_left
    · try simp only [go_sem, EH.n_push, EH.n_set, List.getElem?_cons_zero, List.getElem?_cons_succ, List.head?_cons, List.drop_succ_cons, List.drop_zero, List.take_succ_cons, List.take_zero, List.length_cons, List.length_nil, List.all_cons, List.all_nil, List.map_cons, List.map_nil, Nat.reduceAdd, Nat.reduceLeDiff, Nat.reduceEqDiff, Nat.reduceSub, Nat.zero_add, Nat.le_refl, Int.toNat_zero, Int.reduceToNat, Int.toNat_natCast, and_self, and_true, true_and, if_true, if_false, ↓reduceIte, Bool.and_true, Bool.and_self, Bool.true_and, Bool.false_eq_true, reduceCtorEq, AV.isSize, beq_self_eq_true, decide_true, decide_false, List.nil_append, forall_const, Bool.not_true, Bool.not_false, imp_self, true_implies, false_implies, List.getD_cons_zero, List.getD_cons_succ, Int.reduceLE, Int.reduceLT, Int.cast_ofNat_Int, bne_self_eq_false]
      refine and_i (b := ?_) (fun q J3 hJ3 => ?_) (fun h3 e3 => ?_); rotate_left
      · try simp only [go_sem, EH.n_push, EH.n_set, List.getElem?_cons_zero, List.getElem?_cons_succ, List.head?_cons, List.drop_succ_cons, List.drop_zero, List.take_succ_cons, List.take_zero, List.length_cons, List.length_nil, List.all_cons, List.all_nil, List.map_cons, List.map_nil, Nat.reduceAdd, Nat.reduceLeDiff, Nat.reduceEqDiff, Nat.reduceSub, Nat.zero_add, Nat.le_refl, Int.toNat_zero, Int.reduceToNat, Int.toNat_natCast, and_self, and_true, true_and, if_true, if_false, ↓reduceIte, Bool.and_true, Bool.and_self, Bool.true_and, Bool.false_eq_true, reduceCtorEq, AV.isSize, beq_self_eq_true, decide_true, decide_false, List.nil_append, forall_const, Bool.not_true, Bool.not_false, imp_self, true_implies, false_implies, List.getD_cons_zero, List.getD_cons_succ, Int.reduceLE, Int.reduceLT, Int.cast_ofNat_Int, bne_self_eq_false]
        exact hJ3 _ (.refl _)
      · exact hJ _ e3
    · try simp only [go_sem, EH.n_push, EH.n_set, List.getElem?_cons_zero, List.getElem?_cons_succ, List.head?_cons, List.drop_succ_cons, List.drop_zero, List.take_succ_cons, List.take_zero, List.length_cons, List.length_nil, List.all_cons, List.all_nil, List.map_cons, List.map_nil, Nat.reduceAdd, Nat.reduceLeDiff, Nat.reduceEqDiff, Nat.reduceSub, Nat.zero_add, Nat.le_refl, Int.toNat_zero, Int.reduceToNat, Int.toNat_natCast, and_self, and_true, true_and, if_true, if_false, ↓reduceIte, Bool.and_true, Bool.and_self, Bool.true_and, Bool.false_eq_true, reduceCtorEq, AV.isSize, beq_self_eq_true, decide_true, decide_false, List.nil_append, forall_const, Bool.not_true, Bool.not_false, imp_self, true_implies, false_implies, List.getD_cons_zero, List.getD_cons_succ, Int.reduceLE, Int.reduceLT, Int.cast_ofNat_Int, bne_self_eq_false]
      exact hk _ (e.trans e2)
theorem c114 (hk : ∀ h', Ext h h' → k (.bool (isPt c)) h') : SCalls Tryz.prog W0 114 [.int .u8 c] h k := by
  refine W114_ok ?_
  unfold W114
  refine ca_i rfl (c112 fun h1 e => ?_)
  refine or_i (b := ?_) (fun q J hJ => ?_) (fun h2 e2 => ?_); rotate_left
  · refine ca_i rfl (c178 fun h3 e3 => ?_)
    exact hJ _ e3
  · refine or_i (b := ?_) (fun q J hJ => ?_) (fun h3 e3 => ?_); rotate_left
    · try simp only [go_sem, EH.n_push, EH.n_set, List.getElem?_cons_zero, List.getElem?_cons_succ, List.head?_cons, List.drop_succ_cons, List.drop_zero, List.take_succ_cons, List.take_zero, List.length_cons, List.length_nil, List.all_cons, List.all_nil, List.map_cons, List.map_nil, Nat.reduceAdd, Nat.reduceLeDiff, Nat.reduceEqDiff, Nat.reduceSub, Nat.zero_add, Nat.le_refl, Int.toNat_zero, Int.reduceToNat, Int.toNat_natCast, and_self, and_true, true_and, if_true, if_false, ↓reduceIte, Bool.and_true, Bool.and_self, Bool.true_and, Bool.false_eq_true, reduceCtorEq, AV.isSize, beq_self_eq_true, decide_true, decide_false, List.nil_append, forall_const, Bool.not_true, Bool.not_false, imp_self, true_implies, false_implies, List.getD_cons_zero, List.getD_cons_succ, Int.reduceLE, Int.reduceLT, Int.cast_ofNat_Int, bne_self_eq_false]
      exact hJ _ (.refl _)
    · try simp only [go_sem, EH.n_push, EH.n_set, List.getElem?_cons_zero, List.getElem?_cons_succ, List.head?_cons, List.drop_succ_cons, List.drop_zero, List.take_succ_cons, List.take_zero, List.length_cons, List.length_nil, List.all_cons, List.all_nil, List.map_cons, List.map_nil, Nat.reduceAdd, Nat.reduceLeDiff, Nat.reduceEqDiff, Nat.reduceSub, Nat.zero_add, Nat.le_refl, Int.toNat_zero, Int.reduceToNat, Int.toNat_natCast, and_self, and_true, true_and, if_true, if_false, ↓reduceIte, Bool.and_true, Bool.and_self, Bool.true_and, Bool.false_eq_true, reduceCtorEq, AV.isSize, beq_self_eq_true, decide_true, decide_false, List.nil_append, forall_const, Bool.not_true, Bool.not_false, imp_self, true_implies, false_implies, List.getD_cons_zero, List.getD_cons_succ, Int.reduceLE, Int.reduceLT, Int.cast_ofNat_Int, bne_self_eq_false]
      exact hk _ ((e.trans e2).trans e3)
theorem c122 (hk : ∀ h', Ext h h' → k (.bool (isPt c)) h') : SCalls Tryz.prog W0 122 [.int .u8 c] h k := by
  refine W122_ok ?_
  unfold W122
  refine ca_i rfl (c182 fun h1 e => ?_)
  refine or_i (b := ?_) (fun q J hJ => ?_) (fun h2 e2 => ?_); rotate_left
  · refine ca_i rfl (c183 fun h3 e3 => ?_)
    exact hJ _ e3
  · refine or_i (b := ?_) (fun q J hJ => ?_) (fun h3 e3 => ?_); rotate_left
    · try simp only [go_sem, EH.n_push, EH.n_set, List.getElem?_cons_zero, List.getElem?_cons_succ, List.head?_cons, List.drop_succ_cons, List.drop_zero, List.take_succ_cons, List.take_zero, List.length_cons, List.length_nil, List.all_cons, List.all_nil, List.map_cons, List.map_nil, Nat.reduceAdd, Nat.reduceLeDiff, Nat.reduceEqDiff, Nat.reduceSub, Nat.zero_add, Nat.le_refl, Int.toNat_zero, Int.reduceToNat, Int.toNat_natCast, and_self, and_true, true_and, if_true, if_false, ↓reduceIte, Bool.and_true, Bool.and_self, Bool.true_and, Bool.false_eq_true, reduceCtorEq, AV.isSize, beq_self_eq_true, decide_true, decide_false, List.nil_append, forall_const, Bool.not_true, Bool.not_false, imp_self, true_implies, false_implies, List.getD_cons_zero, List.getD_cons_succ, Int.reduceLE, Int.reduceLT, Int.cast_ofNat_Int, bne_self_eq_false]
      exact hJ _ (.refl _)
    · try simp only [go_sem, EH.n_push, EH.n_set, List.getElem?_cons_zero, List.getElem?_cons_succ, List.head?_cons, List.drop_succ_cons, List.drop_zero, List.take_succ_cons, List.take_zero, List.length_cons, List.length_nil, List.all_cons, List.all_nil, List.map_cons, List.map_nil, Nat.reduceAdd, Nat.reduceLeDiff, Nat.reduceEqDiff, Nat.reduceSub, Nat.zero_add, Nat.le_refl, Int.toNat_zero, Int.reduceToNat, Int.toNat_natCast, and_self, and_true, true_and, if_true, if_false, ↓reduceIte, Bool.and_true, Bool.and_self, Bool.true_and, Bool.false_eq_true, reduceCtorEq, AV.isSize, beq_self_eq_true, decide_true, decide_false, List.nil_append, forall_const, Bool.not_true, Bool.not_false, imp_self, true_implies, false_implies, List.getD_cons_zero, List.getD_cons_succ, Int.reduceLE, Int.reduceLT, Int.cast_ofNat_Int, bne_self_eq_false]
      exact hk _ ((e.trans e2).trans e3)
end
end Go.Proofs.YtnpkhnlcpeebcaaGreatDoor
/- Contracts: names, as the document has them. -/
set_option maxRecDepth 100000
namespace Go.Proofs.YtnpkhnlcpeebcaaGreatDoor
open Go Go.Qa Go.Proofs

def by8 (b : UInt8) : Int := b.toNat
theorem by8_lt (b : UInt8) : 0 ≤ by8 b ∧ by8 b < 256 := by
  have := b.toNat_lt
  unfold by8; omega
/-- A byte of a name. -/
def nmC (b : UInt8) : Bool := isPt (by8 b) && !(decide (65 ≤ by8 b) && decide (by8 b ≤ 90))
/-- It is no name by its length or its first byte. -/
def nmH (s : List UInt8) : Bool := s == [] || decide ((12 : Int) < s.length) || decide (by8 (s.getD 0 0) < 97) || decide (122 < by8 (s.getD 0 0))
/-- A name. -/
def isNm (s : List UInt8) : Bool := !nmH s && s.all nmC
theorem all_take_succ (p : UInt8 → Bool) (s : List UInt8) (i : Nat) (h : i < s.length) : (s.take (i + 1)).all p = ((s.take i).all p && p (s.getD i 0)) := by
  rw [List.take_succ, List.all_append]
  congr 1
  rw [List.getElem?_eq_getElem h, List.getD_eq_getElem?_getD, List.getElem?_eq_getElem h]
  simp
theorem all_false_at (p : UInt8 → Bool) (s : List UInt8) (i : Nat) (h : i < s.length) (hp : p (s.getD i 0) = false) : s.all p = false := by
  rw [Bool.eq_false_iff]
  intro q
  rw [List.all_eq_true] at q
  have := q (s.getD i 0) (by rw [List.getD_eq_getElem?_getD, List.getElem?_eq_getElem h]; exact List.getElem_mem h)
  rw [hp] at this; cases this
section
variable {W0 : World} {h : EH} {k : AV → EH → Prop} {c : Int} {s : List UInt8}
theorem c54 (hk : ∀ h', Ext h h' → k (.bool (isNm s)) h') : SCalls Tryz.prog W0 54 [.str s] h k := by
  refine W54_ok ?_
  unfold W54
  try simp only [go_sem, EH.n_push, EH.n_set, List.getElem?_cons_zero, List.getElem?_cons_succ, List.head?_cons, List.drop_succ_cons, List.drop_zero, List.take_succ_cons, List.take_zero, List.length_cons, List.length_nil, List.all_cons, List.all_nil, List.map_cons, List.map_nil, Nat.reduceAdd, Nat.reduceLeDiff, Nat.reduceEqDiff, Nat.reduceSub, Nat.zero_add, Nat.le_refl, Int.toNat_zero, Int.reduceToNat, Int.toNat_natCast, and_self, and_true, true_and, if_true, if_false, ↓reduceIte, Bool.and_true, Bool.and_self, Bool.true_and, Bool.false_eq_true, reduceCtorEq, AV.isSize, beq_self_eq_true, decide_true, decide_false, List.nil_append, forall_const, Bool.not_true, Bool.not_false, imp_self, true_implies, false_implies, List.getD_cons_zero, List.getD_cons_succ, Int.reduceLE, Int.reduceLT, Int.cast_ofNat_Int, bne_self_eq_false]
  refine or_i (b := ?_) (fun q J hJ => ?_) (fun h1 e1 => ?_); rotate_left
  · try simp only [go_sem, EH.n_push, EH.n_set, List.getElem?_cons_zero, List.getElem?_cons_succ, List.head?_cons, List.drop_succ_cons, List.drop_zero, List.take_succ_cons, List.take_zero, List.length_cons, List.length_nil, List.all_cons, List.all_nil, List.map_cons, List.map_nil, Nat.reduceAdd, Nat.reduceLeDiff, Nat.reduceEqDiff, Nat.reduceSub, Nat.zero_add, Nat.le_refl, Int.toNat_zero, Int.reduceToNat, Int.toNat_natCast, and_self, and_true, true_and, if_true, if_false, ↓reduceIte, Bool.and_true, Bool.and_self, Bool.true_and, Bool.false_eq_true, reduceCtorEq, AV.isSize, beq_self_eq_true, decide_true, decide_false, List.nil_append, forall_const, Bool.not_true, Bool.not_false, imp_self, true_implies, false_implies, List.getD_cons_zero, List.getD_cons_succ, Int.reduceLE, Int.reduceLT, Int.cast_ofNat_Int, bne_self_eq_false]
    exact hJ _ (.refl _)
  · refine or_i (b := ?_) (fun q J hJ => ?_) (fun h2 e2 => ?_); rotate_left
    · try simp only [go_sem, EH.n_push, EH.n_set, List.getElem?_cons_zero, List.getElem?_cons_succ, List.head?_cons, List.drop_succ_cons, List.drop_zero, List.take_succ_cons, List.take_zero, List.length_cons, List.length_nil, List.all_cons, List.all_nil, List.map_cons, List.map_nil, Nat.reduceAdd, Nat.reduceLeDiff, Nat.reduceEqDiff, Nat.reduceSub, Nat.zero_add, Nat.le_refl, Int.toNat_zero, Int.reduceToNat, Int.toNat_natCast, and_self, and_true, true_and, if_true, if_false, ↓reduceIte, Bool.and_true, Bool.and_self, Bool.true_and, Bool.false_eq_true, reduceCtorEq, AV.isSize, beq_self_eq_true, decide_true, decide_false, List.nil_append, forall_const, Bool.not_true, Bool.not_false, imp_self, true_implies, false_implies, List.getD_cons_zero, List.getD_cons_succ, Int.reduceLE, Int.reduceLT, Int.cast_ofNat_Int, bne_self_eq_false]
      have hne : s ≠ [] := fun e => by rw [e] at q; simp at q
      have := List.length_pos_iff.2 hne
      refine ⟨by omega, ?_⟩
      exact hJ _ (.refl _)
    · refine or_i (b := ?_) (fun q J hJ => ?_) (fun h3 e3 => ?_); rotate_left
      · try simp only [go_sem, EH.n_push, EH.n_set, List.getElem?_cons_zero, List.getElem?_cons_succ, List.head?_cons, List.drop_succ_cons, List.drop_zero, List.take_succ_cons, List.take_zero, List.length_cons, List.length_nil, List.all_cons, List.all_nil, List.map_cons, List.map_nil, Nat.reduceAdd, Nat.reduceLeDiff, Nat.reduceEqDiff, Nat.reduceSub, Nat.zero_add, Nat.le_refl, Int.toNat_zero, Int.reduceToNat, Int.toNat_natCast, and_self, and_true, true_and, if_true, if_false, ↓reduceIte, Bool.and_true, Bool.and_self, Bool.true_and, Bool.false_eq_true, reduceCtorEq, AV.isSize, beq_self_eq_true, decide_true, decide_false, List.nil_append, forall_const, Bool.not_true, Bool.not_false, imp_self, true_implies, false_implies, List.getD_cons_zero, List.getD_cons_succ, Int.reduceLE, Int.reduceLT, Int.cast_ofNat_Int, bne_self_eq_false]
        have hne : s ≠ [] := fun e => by rw [e] at q; simp at q
        have := List.length_pos_iff.2 hne
        refine ⟨by omega, ?_⟩
        exact hJ _ (.refl _)
      · try simp only [go_sem, EH.n_push, EH.n_set, List.getElem?_cons_zero, List.getElem?_cons_succ, List.head?_cons, List.drop_succ_cons, List.drop_zero, List.take_succ_cons, List.take_zero, List.length_cons, List.length_nil, List.all_cons, List.all_nil, List.map_cons, List.map_nil, Nat.reduceAdd, Nat.reduceLeDiff, Nat.reduceEqDiff, Nat.reduceSub, Nat.zero_add, Nat.le_refl, Int.toNat_zero, Int.reduceToNat, Int.toNat_natCast, and_self, and_true, true_and, if_true, if_false, ↓reduceIte, Bool.and_true, Bool.and_self, Bool.true_and, Bool.false_eq_true, reduceCtorEq, AV.isSize, beq_self_eq_true, decide_true, decide_false, List.nil_append, forall_const, Bool.not_true, Bool.not_false, imp_self, true_implies, false_implies, List.getD_cons_zero, List.getD_cons_succ, Int.reduceLE, Int.reduceLT, Int.cast_ofNat_Int, bne_self_eq_false]
        have e4 := (e1.trans e2).trans e3
        refine ⟨fun q => ?_, fun q => ?_⟩
        · have q' : nmH s = true := q
          have : isNm s = false := by simp only [isNm, q', Bool.not_true, Bool.false_and]
          rw [this] at hk
          exact hk _ e4
        · have hl : s.length ≤ 12 := by
            simp only [Bool.or_eq_false_iff, decide_eq_false_iff_not] at q
            omega
          have q' : nmH s = false := q
          have hv : isNm s = s.all nmC := by simp only [isNm, q', Bool.not_false, Bool.true_and]
          rw [hv] at hk
          refine ⟨fun n v h' => Ext h h' ∧ ∃ i : Nat, v = .int .i64 i ∧ n = s.length - i ∧ i ≤ s.length ∧ (s.take i).all nmC = true, _, ⟨e4, 0, rfl, rfl, by omega, rfl⟩, ?_⟩
          rintro n v h4 ⟨e5, i, rfl, rfl, hi, hp⟩
          try simp only [go_sem, EH.n_push, EH.n_set, List.getElem?_cons_zero, List.getElem?_cons_succ, List.head?_cons, List.drop_succ_cons, List.drop_zero, List.take_succ_cons, List.take_zero, List.length_cons, List.length_nil, List.all_cons, List.all_nil, List.map_cons, List.map_nil, Nat.reduceAdd, Nat.reduceLeDiff, Nat.reduceEqDiff, Nat.reduceSub, Nat.zero_add, Nat.le_refl, Int.toNat_zero, Int.reduceToNat, Int.toNat_natCast, and_self, and_true, true_and, if_true, if_false, ↓reduceIte, Bool.and_true, Bool.and_self, Bool.true_and, Bool.false_eq_true, reduceCtorEq, AV.isSize, beq_self_eq_true, decide_true, decide_false, List.nil_append, forall_const, Bool.not_true, Bool.not_false, imp_self, true_implies, false_implies, List.getD_cons_zero, List.getD_cons_succ, Int.reduceLE, Int.reduceLT, Int.cast_ofNat_Int, bne_self_eq_false]
          refine ⟨fun q2 => ?_, fun q2 => ?_⟩
          · simp only [decide_eq_true_eq, Int.ofNat_lt] at q2
            refine ⟨by omega, ?_⟩
            refine ca_i rfl (c122 fun h5 e6 => ?_)
            try simp only [go_sem, EH.n_push, EH.n_set, List.getElem?_cons_zero, List.getElem?_cons_succ, List.head?_cons, List.drop_succ_cons, List.drop_zero, List.take_succ_cons, List.take_zero, List.length_cons, List.length_nil, List.all_cons, List.all_nil, List.map_cons, List.map_nil, Nat.reduceAdd, Nat.reduceLeDiff, Nat.reduceEqDiff, Nat.reduceSub, Nat.zero_add, Nat.le_refl, Int.toNat_zero, Int.reduceToNat, Int.toNat_natCast, and_self, and_true, true_and, if_true, if_false, ↓reduceIte, Bool.and_true, Bool.and_self, Bool.true_and, Bool.false_eq_true, reduceCtorEq, AV.isSize, beq_self_eq_true, decide_true, decide_false, List.nil_append, forall_const, Bool.not_true, Bool.not_false, imp_self, true_implies, false_implies, List.getD_cons_zero, List.getD_cons_succ, Int.reduceLE, Int.reduceLT, Int.cast_ofNat_Int, bne_self_eq_false]
            refine or_i (b := ?_) (fun q3 J hJ => ?_) (fun h6 e7 => ?_); rotate_left
            · try simp only [go_sem, EH.n_push, EH.n_set, List.getElem?_cons_zero, List.getElem?_cons_succ, List.head?_cons, List.drop_succ_cons, List.drop_zero, List.take_succ_cons, List.take_zero, List.length_cons, List.length_nil, List.all_cons, List.all_nil, List.map_cons, List.map_nil, Nat.reduceAdd, Nat.reduceLeDiff, Nat.reduceEqDiff, Nat.reduceSub, Nat.zero_add, Nat.le_refl, Int.toNat_zero, Int.reduceToNat, Int.toNat_natCast, and_self, and_true, true_and, if_true, if_false, ↓reduceIte, Bool.and_true, Bool.and_self, Bool.true_and, Bool.false_eq_true, reduceCtorEq, AV.isSize, beq_self_eq_true, decide_true, decide_false, List.nil_append, forall_const, Bool.not_true, Bool.not_false, imp_self, true_implies, false_implies, List.getD_cons_zero, List.getD_cons_succ, Int.reduceLE, Int.reduceLT, Int.cast_ofNat_Int, bne_self_eq_false]
              refine ⟨by omega, ?_⟩
              refine and_i (b := ?_) (fun q4 J2 hJ2 => ?_) (fun h7 e8 => ?_); rotate_left
              · try simp only [go_sem, EH.n_push, EH.n_set, List.getElem?_cons_zero, List.getElem?_cons_succ, List.head?_cons, List.drop_succ_cons, List.drop_zero, List.take_succ_cons, List.take_zero, List.length_cons, List.length_nil, List.all_cons, List.all_nil, List.map_cons, List.map_nil, Nat.reduceAdd, Nat.reduceLeDiff, Nat.reduceEqDiff, Nat.reduceSub, Nat.zero_add, Nat.le_refl, Int.toNat_zero, Int.reduceToNat, Int.toNat_natCast, and_self, and_true, true_and, if_true, if_false, ↓reduceIte, Bool.and_true, Bool.and_self, Bool.true_and, Bool.false_eq_true, reduceCtorEq, AV.isSize, beq_self_eq_true, decide_true, decide_false, List.nil_append, forall_const, Bool.not_true, Bool.not_false, imp_self, true_implies, false_implies, List.getD_cons_zero, List.getD_cons_succ, Int.reduceLE, Int.reduceLT, Int.cast_ofNat_Int, bne_self_eq_false]
                refine ⟨by omega, ?_⟩
                exact hJ2 _ (.refl _)
              · exact hJ _ e8
            · have hn : (!isPt ((s.getD i 0).toNat : Int) || (decide (65 ≤ ((s.getD i 0).toNat : Int)) && decide (((s.getD i 0).toNat : Int) ≤ 90))) = !nmC (s.getD i 0) := by
                simp only [nmC, by8]
                cases isPt ((s.getD i 0).toNat : Int) <;> simp
              rw [hn]
              have e9 := (e5.trans e6).trans e7
              try simp only [go_sem, EH.n_push, EH.n_set, List.getElem?_cons_zero, List.getElem?_cons_succ, List.head?_cons, List.drop_succ_cons, List.drop_zero, List.take_succ_cons, List.take_zero, List.length_cons, List.length_nil, List.all_cons, List.all_nil, List.map_cons, List.map_nil, Nat.reduceAdd, Nat.reduceLeDiff, Nat.reduceEqDiff, Nat.reduceSub, Nat.zero_add, Nat.le_refl, Int.toNat_zero, Int.reduceToNat, Int.toNat_natCast, and_self, and_true, true_and, if_true, if_false, ↓reduceIte, Bool.and_true, Bool.and_self, Bool.true_and, Bool.false_eq_true, reduceCtorEq, AV.isSize, beq_self_eq_true, decide_true, decide_false, List.nil_append, forall_const, Bool.not_true, Bool.not_false, imp_self, true_implies, false_implies, List.getD_cons_zero, List.getD_cons_succ, Int.reduceLE, Int.reduceLT, Int.cast_ofNat_Int, bne_self_eq_false]
              refine ⟨fun q5 => ?_, fun q5 => ?_⟩
              · rw [all_false_at nmC s i q2 (by simpa using q5)] at hk
                exact hk _ e9
              · rw [w64 (by omega) (by omega)]
                exact ⟨_, by omega, e9, i + 1, rfl, rfl, by omega, by rw [all_take_succ _ _ _ q2, hp]; simpa using q5⟩
          · simp only [decide_eq_false_iff_not, Int.ofNat_lt] at q2
            have : i = s.length := by omega
            subst this
            rw [List.take_length] at hp
            rw [hp] at hk
            exact hk _ e5
end
end Go.Proofs.YtnpkhnlcpeebcaaGreatDoor
/- Contracts: names, as the program has them. -/
set_option maxRecDepth 100000
namespace Go.Proofs.YtnpkhnlcpeebcaaGreatDoor
open Go Go.Qa Go.Proofs

def ptC (b : UInt8) : Bool := isPt (by8 b)
/-- How many bytes at the front are of names. -/
def runN (s : List UInt8) : Nat := (s.takeWhile ptC).length
theorem takeWhile_take (p : UInt8 → Bool) : ∀ (s : List UInt8) (i : Nat), i ≤ s.length → (s.take i).all p = true → (i = s.length ∨ p (s.getD i 0) = false) → (s.takeWhile p).length = i
  | [], i, hi, _, _ => by simp at hi; subst hi; rfl
  | b :: l, 0, hi, _, hx => by
    rcases hx with hx | hx
    · simp at hx
    · have : p b = false := by simpa using hx
      simp [List.takeWhile, this]
  | b :: l, i + 1, hi, ha, hx => by
    simp only [List.take_succ_cons, List.all_cons, Bool.and_eq_true] at ha
    have := takeWhile_take p l i (by simpa using hi) ha.2 (by simpa using hx)
    simp [List.takeWhile, ha.1, this]
/-- A byte with a small letter. -/
def lowC (b : UInt8) : UInt8 := if 65 ≤ by8 b ∧ by8 b ≤ 90 then b + 32 else b
theorem low_up (b : UInt8) (h : 65 ≤ by8 b ∧ by8 b ≤ 90) : AV.int .u8 (by8 b - 65 + 97) = byteAV (lowC b) := by
  simp only [byteAV, lowC, h, and_self, if_true]
  congr 1
  have : (b + 32).toNat = b.toNat + 32 := by
    rw [UInt8.toNat_add]
    unfold by8 at h
    have : (32 : UInt8).toNat = 32 := rfl
    omega
  rw [this]; unfold by8; omega
section
variable {W0 : World} {h : EH} {k : AV → EH → Prop} {c : Int} {s : List UInt8}
theorem c113 (hl : s.length ≤ 1000000) (hk : ∀ h', Ext h h' → k (.int .i64 (runN s)) h') : SCalls Tryz.prog W0 113 [.str s, .fn (.func 114) [] []] h k := by
  refine W113_ok ?_
  unfold W113
  refine ⟨fun n v h' => Ext h h' ∧ ∃ i : Nat, v = .int .i64 i ∧ n = s.length - i ∧ i ≤ s.length ∧ (s.take i).all ptC = true, _, ⟨.refl h, 0, rfl, rfl, by omega, rfl⟩, ?_⟩
  rintro n v h1 ⟨e1, i, rfl, rfl, hi, hp⟩
  try simp only [go_sem, EH.n_push, EH.n_set, List.getElem?_cons_zero, List.getElem?_cons_succ, List.head?_cons, List.drop_succ_cons, List.drop_zero, List.take_succ_cons, List.take_zero, List.length_cons, List.length_nil, List.all_cons, List.all_nil, List.map_cons, List.map_nil, Nat.reduceAdd, Nat.reduceLeDiff, Nat.reduceEqDiff, Nat.reduceSub, Nat.zero_add, Nat.le_refl, Int.toNat_zero, Int.reduceToNat, Int.toNat_natCast, and_self, and_true, true_and, if_true, if_false, ↓reduceIte, Bool.and_true, Bool.and_self, Bool.true_and, Bool.false_eq_true, reduceCtorEq, AV.isSize, beq_self_eq_true, decide_true, decide_false, List.nil_append, forall_const, Bool.not_true, Bool.not_false, imp_self, true_implies, false_implies, List.getD_cons_zero, List.getD_cons_succ, Int.reduceLE, Int.reduceLT, Int.cast_ofNat_Int, bne_self_eq_false]
  refine and_i (b := ?_) (fun q J hJ => ?_) (fun h2 e2 => ?_); rotate_left
  · simp only [decide_eq_true_eq, Int.ofNat_lt] at q
    try simp only [go_sem, EH.n_push, EH.n_set, List.getElem?_cons_zero, List.getElem?_cons_succ, List.head?_cons, List.drop_succ_cons, List.drop_zero, List.take_succ_cons, List.take_zero, List.length_cons, List.length_nil, List.all_cons, List.all_nil, List.map_cons, List.map_nil, Nat.reduceAdd, Nat.reduceLeDiff, Nat.reduceEqDiff, Nat.reduceSub, Nat.zero_add, Nat.le_refl, Int.toNat_zero, Int.reduceToNat, Int.toNat_natCast, and_self, and_true, true_and, if_true, if_false, ↓reduceIte, Bool.and_true, Bool.and_self, Bool.true_and, Bool.false_eq_true, reduceCtorEq, AV.isSize, beq_self_eq_true, decide_true, decide_false, List.nil_append, forall_const, Bool.not_true, Bool.not_false, imp_self, true_implies, false_implies, List.getD_cons_zero, List.getD_cons_succ, Int.reduceLE, Int.reduceLT, Int.cast_ofNat_Int, bne_self_eq_false]
    refine ⟨by omega, ?_⟩
    refine cf_i rfl (c114 fun h3 e3 => ?_)
    exact hJ _ e3
  · try simp only [go_sem, EH.n_push, EH.n_set, List.getElem?_cons_zero, List.getElem?_cons_succ, List.head?_cons, List.drop_succ_cons, List.drop_zero, List.take_succ_cons, List.take_zero, List.length_cons, List.length_nil, List.all_cons, List.all_nil, List.map_cons, List.map_nil, Nat.reduceAdd, Nat.reduceLeDiff, Nat.reduceEqDiff, Nat.reduceSub, Nat.zero_add, Nat.le_refl, Int.toNat_zero, Int.reduceToNat, Int.toNat_natCast, and_self, and_true, true_and, if_true, if_false, ↓reduceIte, Bool.and_true, Bool.and_self, Bool.true_and, Bool.false_eq_true, reduceCtorEq, AV.isSize, beq_self_eq_true, decide_true, decide_false, List.nil_append, forall_const, Bool.not_true, Bool.not_false, imp_self, true_implies, false_implies, List.getD_cons_zero, List.getD_cons_succ, Int.reduceLE, Int.reduceLT, Int.cast_ofNat_Int, bne_self_eq_false]
    refine ⟨fun q => ?_, fun q => ?_⟩
    · simp only [Bool.and_eq_true, decide_eq_true_eq, Int.ofNat_lt] at q
      rw [w64 (by omega) (by omega)]
      exact ⟨_, by omega, e1.trans e2, i + 1, rfl, rfl, by omega, by rw [all_take_succ _ _ _ q.1, hp]; simpa [ptC, by8] using q.2⟩
    · have : runN s = i := by
        refine takeWhile_take ptC s i hi hp ?_
        rcases Nat.lt_or_ge i s.length with z | z
        · right
          have z' : (i : Int) < s.length := by omega
          simpa [z', ptC, by8] using q
        · left; omega
      rw [this] at hk
      exact hk _ (e1.trans e2)
theorem byteAV_get (l : List UInt8) (i : Nat) (hi : i < l.length) : (l.map byteAV)[i]? = some (.int .u8 (by8 (l.getD i 0))) := by
  rw [List.getElem?_map, List.getElem?_eq_getElem hi, List.getD_eq_getElem?_getD, List.getElem?_eq_getElem hi]
  rfl
theorem c115 (hl : s.length ≤ 1000000) (hk : ∀ h', Ext h h' → k (.str (s.map lowC)) h') : SCalls Tryz.prog W0 115 [.str s] h k := by
  refine W115_ok ?_
  unfold W115
  try simp only [go_sem, EH.n_push, EH.n_set, List.getElem?_cons_zero, List.getElem?_cons_succ, List.head?_cons, List.drop_succ_cons, List.drop_zero, List.take_succ_cons, List.take_zero, List.length_cons, List.length_nil, List.all_cons, List.all_nil, List.map_cons, List.map_nil, Nat.reduceAdd, Nat.reduceLeDiff, Nat.reduceEqDiff, Nat.reduceSub, Nat.zero_add, Nat.le_refl, Int.toNat_zero, Int.reduceToNat, Int.toNat_natCast, and_self, and_true, true_and, if_true, if_false, ↓reduceIte, Bool.and_true, Bool.and_self, Bool.true_and, Bool.false_eq_true, reduceCtorEq, AV.isSize, beq_self_eq_true, decide_true, decide_false, List.nil_append, forall_const, Bool.not_true, Bool.not_false, imp_self, true_implies, false_implies, List.getD_cons_zero, List.getD_cons_succ, Int.reduceLE, Int.reduceLT, Int.cast_ofNat_Int, bne_self_eq_false]
  refine ⟨fun n v h' => Ext h h' ∧ h.n < h'.n ∧ ∃ i : Nat, v = .int .i64 i ∧ n = s.length - i ∧ i ≤ s.length ∧ h'.get h.n = some (.cells (((s.take i).map lowC ++ s.drop i).map byteAV)), _, ⟨.push _ _, by rw [EH.n_push]; omega, 0, rfl, rfl, by omega, ?_⟩, ?_⟩
  · rw [get_push_eq rfl]; simp
  rintro n v h1 ⟨e1, en, i, rfl, rfl, hi, hg⟩
  try simp only [go_sem, EH.n_push, EH.n_set, List.getElem?_cons_zero, List.getElem?_cons_succ, List.head?_cons, List.drop_succ_cons, List.drop_zero, List.take_succ_cons, List.take_zero, List.length_cons, List.length_nil, List.all_cons, List.all_nil, List.map_cons, List.map_nil, Nat.reduceAdd, Nat.reduceLeDiff, Nat.reduceEqDiff, Nat.reduceSub, Nat.zero_add, Nat.le_refl, Int.toNat_zero, Int.reduceToNat, Int.toNat_natCast, and_self, and_true, true_and, if_true, if_false, ↓reduceIte, Bool.and_true, Bool.and_self, Bool.true_and, Bool.false_eq_true, reduceCtorEq, AV.isSize, beq_self_eq_true, decide_true, decide_false, List.nil_append, forall_const, Bool.not_true, Bool.not_false, imp_self, true_implies, false_implies, List.getD_cons_zero, List.getD_cons_succ, Int.reduceLE, Int.reduceLT, Int.cast_ofNat_Int, bne_self_eq_false]
  have hlen : ((s.take i).map lowC ++ s.drop i).length = s.length := by simp; omega
  refine ⟨fun q => ?_, fun q => ?_⟩
  · simp only [decide_eq_true_eq, Int.ofNat_lt] at q
    have hat : ((s.take i).map lowC ++ s.drop i).getD i 0 = s.getD i 0 := by
      rw [List.getD_eq_getElem?_getD, List.getElem?_append_right (by simp; omega), List.getD_eq_getElem?_getD]
      simp [Nat.min_eq_left hi]
    have hset : over (((s.take i).map lowC ++ s.drop i).map byteAV) i [byteAV (lowC (s.getD i 0))] = ((s.take (i + 1)).map lowC ++ s.drop (i + 1)).map byteAV := by
      have h1 : s.take (i + 1) = s.take i ++ [s.getD i 0] := by
        rw [List.take_succ, List.getElem?_eq_getElem q, List.getD_eq_getElem?_getD, List.getElem?_eq_getElem q]; rfl
      have h2 : s.drop i = s.getD i 0 :: s.drop (i + 1) := by
        rw [List.drop_eq_getElem_cons q, List.getD_eq_getElem?_getD, List.getElem?_eq_getElem q]; rfl
      have hm : ((s.take i).map lowC).length = i := by simp; omega
      rw [h1, h2]
      simp only [over, List.map_append, List.map_cons, List.map_nil, List.append_assoc]
      rw [List.take_append_of_le_length (by simp; omega), List.take_of_length_le (by simp; omega), List.drop_append, List.drop_eq_nil_of_le (by simp; omega)]
      simp [hm, Nat.min_eq_left hi]
    refine ⟨fun h' => Ext h h' ∧ h.n < h'.n ∧ h'.get h.n = some (.cells (((s.take (i + 1)).map lowC ++ s.drop (i + 1)).map byteAV)), fun h3 ⟨e3, en3, hg3⟩ => ?_, ?_⟩
    · try simp only [go_sem, EH.n_push, EH.n_set, List.getElem?_cons_zero, List.getElem?_cons_succ, List.head?_cons, List.drop_succ_cons, List.drop_zero, List.take_succ_cons, List.take_zero, List.length_cons, List.length_nil, List.all_cons, List.all_nil, List.map_cons, List.map_nil, Nat.reduceAdd, Nat.reduceLeDiff, Nat.reduceEqDiff, Nat.reduceSub, Nat.zero_add, Nat.le_refl, Int.toNat_zero, Int.reduceToNat, Int.toNat_natCast, and_self, and_true, true_and, if_true, if_false, ↓reduceIte, Bool.and_true, Bool.and_self, Bool.true_and, Bool.false_eq_true, reduceCtorEq, AV.isSize, beq_self_eq_true, decide_true, decide_false, List.nil_append, forall_const, Bool.not_true, Bool.not_false, imp_self, true_implies, false_implies, List.getD_cons_zero, List.getD_cons_succ, Int.reduceLE, Int.reduceLT, Int.cast_ofNat_Int, bne_self_eq_false]
      rw [w64 (by omega) (by omega)]
      exact ⟨_, by omega, e3, en3, i + 1, rfl, rfl, by omega, hg3⟩
    · try simp only [go_sem, EH.n_push, EH.n_set, List.getElem?_cons_zero, List.getElem?_cons_succ, List.head?_cons, List.drop_succ_cons, List.drop_zero, List.take_succ_cons, List.take_zero, List.length_cons, List.length_nil, List.all_cons, List.all_nil, List.map_cons, List.map_nil, Nat.reduceAdd, Nat.reduceLeDiff, Nat.reduceEqDiff, Nat.reduceSub, Nat.zero_add, Nat.le_refl, Int.toNat_zero, Int.reduceToNat, Int.toNat_natCast, and_self, and_true, true_and, if_true, if_false, ↓reduceIte, Bool.and_true, Bool.and_self, Bool.true_and, Bool.false_eq_true, reduceCtorEq, AV.isSize, beq_self_eq_true, decide_true, decide_false, List.nil_append, forall_const, Bool.not_true, Bool.not_false, imp_self, true_implies, false_implies, List.getD_cons_zero, List.getD_cons_succ, Int.reduceLE, Int.reduceLT, Int.cast_ofNat_Int, bne_self_eq_false, Nat.mul_one]
      refine ⟨by omega, ?_⟩
      rw [hg, ldc_some, byteAV_get _ _ (by omega), hat, optP_some]
      try simp only [go_sem, EH.n_push, EH.n_set, List.getElem?_cons_zero, List.getElem?_cons_succ, List.head?_cons, List.drop_succ_cons, List.drop_zero, List.take_succ_cons, List.take_zero, List.length_cons, List.length_nil, List.all_cons, List.all_nil, List.map_cons, List.map_nil, Nat.reduceAdd, Nat.reduceLeDiff, Nat.reduceEqDiff, Nat.reduceSub, Nat.zero_add, Nat.le_refl, Int.toNat_zero, Int.reduceToNat, Int.toNat_natCast, and_self, and_true, true_and, if_true, if_false, ↓reduceIte, Bool.and_true, Bool.and_self, Bool.true_and, Bool.false_eq_true, reduceCtorEq, AV.isSize, beq_self_eq_true, decide_true, decide_false, List.nil_append, forall_const, Bool.not_true, Bool.not_false, imp_self, true_implies, false_implies, List.getD_cons_zero, List.getD_cons_succ, Int.reduceLE, Int.reduceLT, Int.cast_ofNat_Int, bne_self_eq_false]
      refine and_i (b := ?_) (fun q J hJ => ?_) (fun h4 e4 => ?_); rotate_left
      · try simp only [go_sem, EH.n_push, EH.n_set, List.getElem?_cons_zero, List.getElem?_cons_succ, List.head?_cons, List.drop_succ_cons, List.drop_zero, List.take_succ_cons, List.take_zero, List.length_cons, List.length_nil, List.all_cons, List.all_nil, List.map_cons, List.map_nil, Nat.reduceAdd, Nat.reduceLeDiff, Nat.reduceEqDiff, Nat.reduceSub, Nat.zero_add, Nat.le_refl, Int.toNat_zero, Int.reduceToNat, Int.toNat_natCast, and_self, and_true, true_and, if_true, if_false, ↓reduceIte, Bool.and_true, Bool.and_self, Bool.true_and, Bool.false_eq_true, reduceCtorEq, AV.isSize, beq_self_eq_true, decide_true, decide_false, List.nil_append, forall_const, Bool.not_true, Bool.not_false, imp_self, true_implies, false_implies, List.getD_cons_zero, List.getD_cons_succ, Int.reduceLE, Int.reduceLT, Int.cast_ofNat_Int, bne_self_eq_false]
        exact hJ _ (.refl _)
      · have hg4 := e4.get hg
        have hn4 := e4.1
        have e5 := e1.trans e4
        have hb := by8_lt (s.getD i 0)
        try simp only [go_sem, EH.n_push, EH.n_set, List.getElem?_cons_zero, List.getElem?_cons_succ, List.head?_cons, List.drop_succ_cons, List.drop_zero, List.take_succ_cons, List.take_zero, List.length_cons, List.length_nil, List.all_cons, List.all_nil, List.map_cons, List.map_nil, Nat.reduceAdd, Nat.reduceLeDiff, Nat.reduceEqDiff, Nat.reduceSub, Nat.zero_add, Nat.le_refl, Int.toNat_zero, Int.reduceToNat, Int.toNat_natCast, and_self, and_true, true_and, if_true, if_false, ↓reduceIte, Bool.and_true, Bool.and_self, Bool.true_and, Bool.false_eq_true, reduceCtorEq, AV.isSize, beq_self_eq_true, decide_true, decide_false, List.nil_append, forall_const, Bool.not_true, Bool.not_false, imp_self, true_implies, false_implies, List.getD_cons_zero, List.getD_cons_succ, Int.reduceLE, Int.reduceLT, Int.cast_ofNat_Int, bne_self_eq_false]
        refine ⟨fun q2 => ?_, fun q2 => ?_⟩
        · simp only [Bool.and_eq_true, decide_eq_true_eq] at q2
          refine ⟨by omega, ?_⟩
          rw [hg4, wu8 (n := by8 (s.getD i 0) - 65) (by omega) (by omega), wu8 (by omega) (by omega)]
          try simp only [go_sem, EH.n_push, EH.n_set, List.getElem?_cons_zero, List.getElem?_cons_succ, List.head?_cons, List.drop_succ_cons, List.drop_zero, List.take_succ_cons, List.take_zero, List.length_cons, List.length_nil, List.all_cons, List.all_nil, List.map_cons, List.map_nil, Nat.reduceAdd, Nat.reduceLeDiff, Nat.reduceEqDiff, Nat.reduceSub, Nat.zero_add, Nat.le_refl, Int.toNat_zero, Int.reduceToNat, Int.toNat_natCast, and_self, and_true, true_and, if_true, if_false, ↓reduceIte, Bool.and_true, Bool.and_self, Bool.true_and, Bool.false_eq_true, reduceCtorEq, AV.isSize, beq_self_eq_true, decide_true, decide_false, List.nil_append, forall_const, Bool.not_true, Bool.not_false, imp_self, true_implies, false_implies, List.getD_cons_zero, List.getD_cons_succ, Int.reduceLE, Int.reduceLT, Int.cast_ofNat_Int, bne_self_eq_false, List.length_map]
          rw [low_up _ q2, hset]
          refine ⟨by omega, ⟨by rw [EH.n_set]; exact e5.1, fun j hj => by rw [get_set_ne (by omega)]; exact e5.2 j hj⟩, by omega, get_set_eq rfl (by omega)⟩
        · refine ⟨e5, by omega, ?_⟩
          rw [hg4, ← hset]
          have hv : lowC (s.getD i 0) = s.getD i 0 := by
            simp only [lowC]
            rw [if_neg (by simpa using q2)]
          rw [hv]
          have h2 : over (((s.take i).map lowC ++ s.drop i).map byteAV) i [byteAV (s.getD i 0)] = ((s.take i).map lowC ++ s.drop i).map byteAV := by
            have h2 : s.drop i = s.getD i 0 :: s.drop (i + 1) := by
              rw [List.drop_eq_getElem_cons q, List.getD_eq_getElem?_getD, List.getElem?_eq_getElem q]; rfl
            rw [h2]
            simp only [over, List.map_append, List.map_cons, List.append_assoc]
            rw [List.take_append_of_le_length (by simp; omega), List.take_of_length_le (by simp; omega), List.drop_append, List.drop_eq_nil_of_le (by simp; omega)]
            simp [Nat.min_eq_left hi]
          rw [h2]
  · simp only [decide_eq_false_iff_not, Int.ofNat_lt] at q
    have : i = s.length := by omega
    subst this
    rw [List.take_length, List.drop_length, List.append_nil] at hg
    rw [b2s_i hg (by simp)]
    try simp only [go_sem, EH.n_push, EH.n_set, List.getElem?_cons_zero, List.getElem?_cons_succ, List.head?_cons, List.drop_succ_cons, List.drop_zero, List.take_succ_cons, List.take_zero, List.length_cons, List.length_nil, List.all_cons, List.all_nil, List.map_cons, List.map_nil, Nat.reduceAdd, Nat.reduceLeDiff, Nat.reduceEqDiff, Nat.reduceSub, Nat.zero_add, Nat.le_refl, Int.toNat_zero, Int.reduceToNat, Int.toNat_natCast, and_self, and_true, true_and, if_true, if_false, ↓reduceIte, Bool.and_true, Bool.and_self, Bool.true_and, Bool.false_eq_true, reduceCtorEq, AV.isSize, beq_self_eq_true, decide_true, decide_false, List.nil_append, forall_const, Bool.not_true, Bool.not_false, imp_self, true_implies, false_implies, List.getD_cons_zero, List.getD_cons_succ, Int.reduceLE, Int.reduceLT, Int.cast_ofNat_Int, bne_self_eq_false]
    exact hk _ e1
end
end Go.Proofs.YtnpkhnlcpeebcaaGreatDoor
/- Contracts: a name of the program is a name of the document; versions; numbers. -/
set_option maxRecDepth 100000
namespace Go.Proofs.YtnpkhnlcpeebcaaGreatDoor
open Go Go.Qa Go.Proofs

theorem takeWhile_len (p : UInt8 → Bool) : ∀ s : List UInt8, ((s.takeWhile p).length = s.length) ↔ s.all p = true
  | [] => by simp
  | b :: l => by
    have := takeWhile_len p l
    cases h : p b with
    | true => simp [List.takeWhile, h]; simpa using this
    | false => simp [List.takeWhile, h]
theorem map_low_eq : ∀ s : List UInt8, (s = s.map lowC) ↔ s.all (fun b => !(decide (65 ≤ by8 b) && decide (by8 b ≤ 90))) = true
  | [] => by simp
  | b :: l => by
    have ih := map_low_eq l
    have hb : b = lowC b ↔ ¬ (65 ≤ by8 b ∧ by8 b ≤ 90) := by
      unfold lowC
      split
      · rename_i q
        constructor
        · intro e
          have := congrArg UInt8.toNat e
          rw [UInt8.toNat_add] at this
          unfold by8 at q
          have : (32 : UInt8).toNat = 32 := rfl
          omega
        · exact fun h => absurd q h
      · rename_i q; exact ⟨fun _ => q, fun _ => rfl⟩
    simp only [List.map_cons, List.cons.injEq, List.all_cons, Bool.and_eq_true]
    rw [← ih, hb]
    exact ⟨fun ⟨a, b⟩ => ⟨by simp; omega, b⟩, fun ⟨a, b⟩ => ⟨by simp at a; omega, b⟩⟩
theorem nm_eq (s : List UInt8) : (!(s == []) && decide ((s.length : Int) ≤ 12) && isLt (by8 (s.getD 0 0)) && ((runN s : Int) == s.length) && s == s.map lowC) = isNm s := by
  rw [Bool.eq_iff_iff]
  have h1 : ((runN s : Int) == s.length) = s.all ptC := by
    rw [Bool.eq_iff_iff, beq_iff_eq, ← takeWhile_len]
    unfold runN
    omega
  have h2 : (s == s.map lowC) = s.all (fun b => !(decide (65 ≤ by8 b) && decide (by8 b ≤ 90))) := by
    rw [Bool.eq_iff_iff, beq_iff_eq, map_low_eq]
  have h3 : s.all nmC = (s.all ptC && s.all (fun b => !(decide (65 ≤ by8 b) && decide (by8 b ≤ 90)))) := by
    rw [Bool.eq_iff_iff]
    simp only [Bool.and_eq_true, List.all_eq_true, nmC, ptC]
    exact ⟨fun h => ⟨fun b hb => (h b hb).1, fun b hb => (h b hb).2⟩, fun h b hb => ⟨h.1 b hb, h.2 b hb⟩⟩
  rw [h1, h2, isNm, h3]
  cases s with
  | nil => simp [nmH]
  | cons b l =>
    simp only [nmH, List.getD_cons_zero, isLt, Bool.and_eq_true, Bool.or_eq_true, Bool.not_eq_true', Bool.or_eq_false_iff, decide_eq_true_eq, decide_eq_false_iff_not, List.all_cons, beq_eq_false_iff_ne]
    have := by8_lt b
    constructor
    · rintro ⟨⟨⟨⟨a1, a2⟩, a3⟩, a4⟩, a5, a6⟩
      simp only [Bool.and_eq_false_iff, decide_eq_false_iff_not] at a5
      exact ⟨⟨⟨⟨a1, by omega⟩, by omega⟩, by omega⟩, a4, by simp; omega, a6⟩
    · rintro ⟨⟨⟨⟨a1, a2⟩, a3⟩, a3'⟩, a4, a5, a6⟩
      exact ⟨⟨⟨⟨a1, by omega⟩, by omega⟩, a4⟩, a5, a6⟩
section
variable {W0 : World} {h : EH} {k : AV → EH → Prop} {c : Int} {s : List UInt8}
theorem c47 (hl : s.length ≤ 1000000) (hk : ∀ h', Ext h h' → k (.bool (isNm s)) h') : SCalls Tryz.prog W0 47 [.str s] h k := by
  rw [← nm_eq] at hk
  refine W47_ok ?_
  unfold W47
  try simp only [go_sem, EH.n_push, EH.n_set, List.getElem?_cons_zero, List.getElem?_cons_succ, List.head?_cons, List.drop_succ_cons, List.drop_zero, List.take_succ_cons, List.take_zero, List.length_cons, List.length_nil, List.all_cons, List.all_nil, List.map_cons, List.map_nil, Nat.reduceAdd, Nat.reduceLeDiff, Nat.reduceEqDiff, Nat.reduceSub, Nat.zero_add, Nat.le_refl, Int.toNat_zero, Int.reduceToNat, Int.toNat_natCast, and_self, and_true, true_and, if_true, if_false, ↓reduceIte, Bool.and_true, Bool.and_self, Bool.true_and, Bool.false_eq_true, reduceCtorEq, AV.isSize, beq_self_eq_true, decide_true, decide_false, List.nil_append, forall_const, Bool.not_true, Bool.not_false, imp_self, true_implies, false_implies, List.getD_cons_zero, List.getD_cons_succ, Int.reduceLE, Int.reduceLT, Int.cast_ofNat_Int, bne_self_eq_false]
  refine and_i (b := ?_) (fun q J hJ => ?_) (fun h1 e1 => ?_); rotate_left
  · try simp only [go_sem, EH.n_push, EH.n_set, List.getElem?_cons_zero, List.getElem?_cons_succ, List.head?_cons, List.drop_succ_cons, List.drop_zero, List.take_succ_cons, List.take_zero, List.length_cons, List.length_nil, List.all_cons, List.all_nil, List.map_cons, List.map_nil, Nat.reduceAdd, Nat.reduceLeDiff, Nat.reduceEqDiff, Nat.reduceSub, Nat.zero_add, Nat.le_refl, Int.toNat_zero, Int.reduceToNat, Int.toNat_natCast, and_self, and_true, true_and, if_true, if_false, ↓reduceIte, Bool.and_true, Bool.and_self, Bool.true_and, Bool.false_eq_true, reduceCtorEq, AV.isSize, beq_self_eq_true, decide_true, decide_false, List.nil_append, forall_const, Bool.not_true, Bool.not_false, imp_self, true_implies, false_implies, List.getD_cons_zero, List.getD_cons_succ, Int.reduceLE, Int.reduceLT, Int.cast_ofNat_Int, bne_self_eq_false]
    exact hJ _ (.refl _)
  · refine and_i (b := ?_) (fun q J hJ => ?_) (fun h2 e2 => ?_); rotate_left
    · try simp only [go_sem, EH.n_push, EH.n_set, List.getElem?_cons_zero, List.getElem?_cons_succ, List.head?_cons, List.drop_succ_cons, List.drop_zero, List.take_succ_cons, List.take_zero, List.length_cons, List.length_nil, List.all_cons, List.all_nil, List.map_cons, List.map_nil, Nat.reduceAdd, Nat.reduceLeDiff, Nat.reduceEqDiff, Nat.reduceSub, Nat.zero_add, Nat.le_refl, Int.toNat_zero, Int.reduceToNat, Int.toNat_natCast, and_self, and_true, true_and, if_true, if_false, ↓reduceIte, Bool.and_true, Bool.and_self, Bool.true_and, Bool.false_eq_true, reduceCtorEq, AV.isSize, beq_self_eq_true, decide_true, decide_false, List.nil_append, forall_const, Bool.not_true, Bool.not_false, imp_self, true_implies, false_implies, List.getD_cons_zero, List.getD_cons_succ, Int.reduceLE, Int.reduceLT, Int.cast_ofNat_Int, bne_self_eq_false]
      have hne : s ≠ [] := fun e => by rw [e] at q; simp at q
      have := List.length_pos_iff.2 hne
      refine ⟨by omega, ?_⟩
      refine ca_i rfl (c112 fun h3 e3 => ?_)
      exact hJ _ e3
    · refine and_i (b := ?_) (fun q J hJ => ?_) (fun h3 e3 => ?_); rotate_left
      · refine ca_i rfl (c113 hl fun h4 e4 => ?_)
        try simp only [go_sem, EH.n_push, EH.n_set, List.getElem?_cons_zero, List.getElem?_cons_succ, List.head?_cons, List.drop_succ_cons, List.drop_zero, List.take_succ_cons, List.take_zero, List.length_cons, List.length_nil, List.all_cons, List.all_nil, List.map_cons, List.map_nil, Nat.reduceAdd, Nat.reduceLeDiff, Nat.reduceEqDiff, Nat.reduceSub, Nat.zero_add, Nat.le_refl, Int.toNat_zero, Int.reduceToNat, Int.toNat_natCast, and_self, and_true, true_and, if_true, if_false, ↓reduceIte, Bool.and_true, Bool.and_self, Bool.true_and, Bool.false_eq_true, reduceCtorEq, AV.isSize, beq_self_eq_true, decide_true, decide_false, List.nil_append, forall_const, Bool.not_true, Bool.not_false, imp_self, true_implies, false_implies, List.getD_cons_zero, List.getD_cons_succ, Int.reduceLE, Int.reduceLT, Int.cast_ofNat_Int, bne_self_eq_false]
        exact hJ _ e4
      · refine and_i (b := ?_) (fun q J hJ => ?_) (fun h4 e4 => ?_); rotate_left
        · refine ca_i rfl (c115 hl fun h5 e5 => ?_)
          try simp only [go_sem, EH.n_push, EH.n_set, List.getElem?_cons_zero, List.getElem?_cons_succ, List.head?_cons, List.drop_succ_cons, List.drop_zero, List.take_succ_cons, List.take_zero, List.length_cons, List.length_nil, List.all_cons, List.all_nil, List.map_cons, List.map_nil, Nat.reduceAdd, Nat.reduceLeDiff, Nat.reduceEqDiff, Nat.reduceSub, Nat.zero_add, Nat.le_refl, Int.toNat_zero, Int.reduceToNat, Int.toNat_natCast, and_self, and_true, true_and, if_true, if_false, ↓reduceIte, Bool.and_true, Bool.and_self, Bool.true_and, Bool.false_eq_true, reduceCtorEq, AV.isSize, beq_self_eq_true, decide_true, decide_false, List.nil_append, forall_const, Bool.not_true, Bool.not_false, imp_self, true_implies, false_implies, List.getD_cons_zero, List.getD_cons_succ, Int.reduceLE, Int.reduceLT, Int.cast_ofNat_Int, bne_self_eq_false]
          exact hJ _ e5
        · try simp only [go_sem, EH.n_push, EH.n_set, List.getElem?_cons_zero, List.getElem?_cons_succ, List.head?_cons, List.drop_succ_cons, List.drop_zero, List.take_succ_cons, List.take_zero, List.length_cons, List.length_nil, List.all_cons, List.all_nil, List.map_cons, List.map_nil, Nat.reduceAdd, Nat.reduceLeDiff, Nat.reduceEqDiff, Nat.reduceSub, Nat.zero_add, Nat.le_refl, Int.toNat_zero, Int.reduceToNat, Int.toNat_natCast, and_self, and_true, true_and, if_true, if_false, ↓reduceIte, Bool.and_true, Bool.and_self, Bool.true_and, Bool.false_eq_true, reduceCtorEq, AV.isSize, beq_self_eq_true, decide_true, decide_false, List.nil_append, forall_const, Bool.not_true, Bool.not_false, imp_self, true_implies, false_implies, List.getD_cons_zero, List.getD_cons_succ, Int.reduceLE, Int.reduceLT, Int.cast_ofNat_Int, bne_self_eq_false]
          exact hk _ (((e1.trans e2).trans e3).trans e4)
/-- A version, byte for byte. -/
def verF (n : Int) (i : Nat) (b : UInt8) : Int := (n + by8 b * (i + 1)).tmod 65521
def ver : Nat → Int → List UInt8 → Int
  | _, n, [] => n
  | i, n, b :: l => ver (i + 1) (verF n i b) l
theorem ver_drop (s : List UInt8) (i : Nat) (n : Int) (h : i < s.length) : ver i n (s.drop i) = ver (i + 1) (verF n i (s.getD i 0)) (s.drop (i + 1)) := by
  rw [List.drop_eq_getElem_cons h, List.getD_eq_getElem?_getD, List.getElem?_eq_getElem h]; rfl
theorem verF_lt {n : Int} {i : Nat} {b : UInt8} (h : 0 ≤ n) : 0 ≤ verF n i b ∧ verF n i b < 65521 := by
  have hb := by8_lt b
  have : 0 ≤ by8 b * ((i : Int) + 1) := Int.mul_nonneg hb.1 (by omega)
  unfold verF
  exact ⟨Int.tmod_nonneg _ (by omega), Int.tmod_lt_of_pos _ (by omega)⟩
theorem mul_b {a : Int} {i : Nat} (ha : 0 ≤ a ∧ a < 256) (hi : i ≤ 1000000) : 0 ≤ a * ((i : Int) + 1) ∧ a * ((i : Int) + 1) ≤ 256 * 1000001 := by
  refine ⟨Int.mul_nonneg ha.1 (by omega), ?_⟩
  refine Int.mul_le_mul (by omega) (by omega) (by omega) (by omega)
theorem c49 (hl : s.length ≤ 60000) (hk : ∀ h', Ext h h' → k (.int .i64 (ver 0 0 s)) h') : SCalls Tryz.prog W0 49 [.str s] h k := by
  refine W49_ok ?_
  unfold W49
  try simp only [go_sem, EH.n_push, EH.n_set, List.getElem?_cons_zero, List.getElem?_cons_succ, List.head?_cons, List.drop_succ_cons, List.drop_zero, List.take_succ_cons, List.take_zero, List.length_cons, List.length_nil, List.all_cons, List.all_nil, List.map_cons, List.map_nil, Nat.reduceAdd, Nat.reduceLeDiff, Nat.reduceEqDiff, Nat.reduceSub, Nat.zero_add, Nat.le_refl, Int.toNat_zero, Int.reduceToNat, Int.toNat_natCast, and_self, and_true, true_and, if_true, if_false, ↓reduceIte, Bool.and_true, Bool.and_self, Bool.true_and, Bool.false_eq_true, reduceCtorEq, AV.isSize, beq_self_eq_true, decide_true, decide_false, List.nil_append, forall_const, Bool.not_true, Bool.not_false, imp_self, true_implies, false_implies, List.getD_cons_zero, List.getD_cons_succ, Int.reduceLE, Int.reduceLT, Int.cast_ofNat_Int, bne_self_eq_false]
  refine ⟨fun m v w h' => Ext h h' ∧ h'.get h.n = some (.cells (s.map byteAV)) ∧ ∃ (i : Nat) (n : Int), w = .int .i64 i ∧ v = .int .i64 n ∧ m = s.length - i ∧ i ≤ s.length ∧ (0 ≤ n ∧ n < 65521) ∧ ver i n (s.drop i) = ver 0 0 s, _, ⟨.push _ _, get_push_eq rfl, 0, 0, rfl, rfl, rfl, by omega, by omega, rfl⟩, ?_⟩
  rintro m v w h1 ⟨e1, hg, i, n, rfl, rfl, rfl, hi, hn, hv⟩
  try simp only [go_sem, EH.n_push, EH.n_set, List.getElem?_cons_zero, List.getElem?_cons_succ, List.head?_cons, List.drop_succ_cons, List.drop_zero, List.take_succ_cons, List.take_zero, List.length_cons, List.length_nil, List.all_cons, List.all_nil, List.map_cons, List.map_nil, Nat.reduceAdd, Nat.reduceLeDiff, Nat.reduceEqDiff, Nat.reduceSub, Nat.zero_add, Nat.le_refl, Int.toNat_zero, Int.reduceToNat, Int.toNat_natCast, and_self, and_true, true_and, if_true, if_false, ↓reduceIte, Bool.and_true, Bool.and_self, Bool.true_and, Bool.false_eq_true, reduceCtorEq, AV.isSize, beq_self_eq_true, decide_true, decide_false, List.nil_append, forall_const, Bool.not_true, Bool.not_false, imp_self, true_implies, false_implies, List.getD_cons_zero, List.getD_cons_succ, Int.reduceLE, Int.reduceLT, Int.cast_ofNat_Int, bne_self_eq_false]
  refine ⟨fun q => ?_, fun q => ?_⟩
  · simp only [decide_eq_true_eq, Int.ofNat_lt] at q
    try simp only [go_sem, EH.n_push, EH.n_set, List.getElem?_cons_zero, List.getElem?_cons_succ, List.head?_cons, List.drop_succ_cons, List.drop_zero, List.take_succ_cons, List.take_zero, List.length_cons, List.length_nil, List.all_cons, List.all_nil, List.map_cons, List.map_nil, Nat.reduceAdd, Nat.reduceLeDiff, Nat.reduceEqDiff, Nat.reduceSub, Nat.zero_add, Nat.le_refl, Int.toNat_zero, Int.reduceToNat, Int.toNat_natCast, and_self, and_true, true_and, if_true, if_false, ↓reduceIte, Bool.and_true, Bool.and_self, Bool.true_and, Bool.false_eq_true, reduceCtorEq, AV.isSize, beq_self_eq_true, decide_true, decide_false, List.nil_append, forall_const, Bool.not_true, Bool.not_false, imp_self, true_implies, false_implies, List.getD_cons_zero, List.getD_cons_succ, Int.reduceLE, Int.reduceLT, Int.cast_ofNat_Int, bne_self_eq_false, Nat.mul_one]
    refine ⟨by omega, ?_⟩
    rw [hg, ldc_some, byteAV_get _ _ q, optP_some]
    have hb := by8_lt (s.getD i 0)
    have hm := mul_b (i := i) hb (by omega)
    try simp only [go_sem, EH.n_push, EH.n_set, List.getElem?_cons_zero, List.getElem?_cons_succ, List.head?_cons, List.drop_succ_cons, List.drop_zero, List.take_succ_cons, List.take_zero, List.length_cons, List.length_nil, List.all_cons, List.all_nil, List.map_cons, List.map_nil, Nat.reduceAdd, Nat.reduceLeDiff, Nat.reduceEqDiff, Nat.reduceSub, Nat.zero_add, Nat.le_refl, Int.toNat_zero, Int.reduceToNat, Int.toNat_natCast, and_self, and_true, true_and, if_true, if_false, ↓reduceIte, Bool.and_true, Bool.and_self, Bool.true_and, Bool.false_eq_true, reduceCtorEq, AV.isSize, beq_self_eq_true, decide_true, decide_false, List.nil_append, forall_const, Bool.not_true, Bool.not_false, imp_self, true_implies, false_implies, List.getD_cons_zero, List.getD_cons_succ, Int.reduceLE, Int.reduceLT, Int.cast_ofNat_Int, bne_self_eq_false]
    rw [w64 (n := by8 (s.getD i 0)) (by omega) (by omega), w64 (n := (i : Int) + 1) (by omega) (by omega), w64 (n := by8 (s.getD i 0) * ((i : Int) + 1)) (by omega) (by omega), w64 (by omega) (by omega)]
    refine ⟨by omega, ?_⟩
    exact ⟨_, by omega, e1, i + 1, _, rfl, rfl, rfl, by omega, verF_lt (i := i) (b := s.getD i 0) hn.1, by rw [← hv, ver_drop s i n q]; rfl⟩
  · simp only [decide_eq_false_iff_not, Int.ofNat_lt] at q
    have : i = s.length := by omega
    subst this
    rw [List.drop_length] at hv
    rw [← hv] at hk
    exact hk _ e1
theorem c55 (hl : s.length ≤ 60000) (hk : ∀ h', Ext h h' → k (.int .i64 (ver 0 0 s)) h') : SCalls Tryz.prog W0 55 [.str s] h k := by
  refine W55_ok ?_
  unfold W55
  refine ⟨fun m v w h' => Ext h h' ∧ ∃ (i : Nat) (n : Int), w = .int .i64 i ∧ v = .int .i64 n ∧ m = s.length - i ∧ i ≤ s.length ∧ (0 ≤ n ∧ n < 65521) ∧ ver i n (s.drop i) = ver 0 0 s, _, ⟨.refl _, 0, 0, rfl, rfl, rfl, by omega, by omega, rfl⟩, ?_⟩
  rintro m v w h1 ⟨e1, i, n, rfl, rfl, rfl, hi, hn, hv⟩
  try simp only [go_sem, EH.n_push, EH.n_set, List.getElem?_cons_zero, List.getElem?_cons_succ, List.head?_cons, List.drop_succ_cons, List.drop_zero, List.take_succ_cons, List.take_zero, List.length_cons, List.length_nil, List.all_cons, List.all_nil, List.map_cons, List.map_nil, Nat.reduceAdd, Nat.reduceLeDiff, Nat.reduceEqDiff, Nat.reduceSub, Nat.zero_add, Nat.le_refl, Int.toNat_zero, Int.reduceToNat, Int.toNat_natCast, and_self, and_true, true_and, if_true, if_false, ↓reduceIte, Bool.and_true, Bool.and_self, Bool.true_and, Bool.false_eq_true, reduceCtorEq, AV.isSize, beq_self_eq_true, decide_true, decide_false, List.nil_append, forall_const, Bool.not_true, Bool.not_false, imp_self, true_implies, false_implies, List.getD_cons_zero, List.getD_cons_succ, Int.reduceLE, Int.reduceLT, Int.cast_ofNat_Int, bne_self_eq_false]
  refine ⟨fun q => ?_, fun q => ?_⟩
  · simp only [decide_eq_true_eq, Int.ofNat_lt] at q
    refine ⟨by omega, ?_⟩
    have hb := by8_lt (s.getD i 0)
    have hm := mul_b (i := i) hb (by omega)
    have hr : ((i : Int) + 1).tmod 65521 = (i : Int) + 1 := Int.tmod_eq_of_lt (by omega) (by omega)
    refine ⟨by omega, by omega, ?_⟩
    show ∃ m1, _
    rw [w64 (n := ((s.getD i 0).toNat : Int)) (by unfold by8 at hb; omega) (by unfold by8 at hb; omega), w64 (n := (i : Int) + 1) (by omega) (by omega), hr]
    show ∃ m1, m1 < _ ∧ Ext h h1 ∧ ∃ i' n', _
    have h2 : IntKind.i64.wrap (((s.getD i 0).toNat : Int) * ((i : Int) + 1)) = by8 (s.getD i 0) * ((i : Int) + 1) := w64 (n := by8 (s.getD i 0) * ((i : Int) + 1)) (by omega) (by omega)
    rw [h2, w64 (by omega) (by omega)]
    exact ⟨_, by omega, e1, i + 1, _, rfl, rfl, rfl, by omega, verF_lt (i := i) (b := s.getD i 0) hn.1, by rw [← hv, ver_drop s i n q]; rfl⟩
  · simp only [decide_eq_false_iff_not, Int.ofNat_lt] at q
    have : i = s.length := by omega
    subst this
    rw [List.drop_length] at hv
    rw [← hv] at hk
    exact hk _ e1
end
end Go.Proofs.YtnpkhnlcpeebcaaGreatDoor
/- Contracts: numbers. -/
set_option maxRecDepth 100000
namespace Go.Proofs.YtnpkhnlcpeebcaaGreatDoor
open Go Go.Qa Go.Proofs

theorem ofNat_dig (d : Nat) (h : d < 10) : (UInt8.ofNat (48 + d)).toNat = 48 + d := by
  rw [UInt8.toNat_ofNat']; omega
theorem parse_step (acc d : Nat) (r : List UInt8) (hd : d < 10) (h : acc * 10 + d < 9223372036854775808) : Lib.parseUint10 acc (UInt8.ofNat (48 + d) :: r) = Lib.parseUint10 (acc * 10 + d) r := by
  simp only [Lib.parseUint10, ofNat_dig d hd]
  rw [if_pos (by omega), if_neg (by omega), if_neg (by omega)]
  congr 1
  omega
theorem parse_dec (u : Nat) : ∀ (r : List UInt8), u < 9223372036854775808 → Lib.parseUint10 0 (Lib.decDigits u ++ r) = Lib.parseUint10 u r := by
  induction u using Nat.strongRecOn with
  | _ u ih =>
    intro r hu
    rw [Lib.decDigits]
    split
    · rename_i h
      have := parse_step 0 u r h (by omega)
      simpa using this
    · rename_i h
      rw [List.append_assoc, ih (u / 10) (by omega) _ (by omega)]
      have := parse_step (u / 10) (u % 10) r (by omega) (by omega)
      rw [show u / 10 * 10 + u % 10 = u by omega] at this
      simpa using this
theorem decDigits_ne (u : Nat) : Lib.decDigits u ≠ [] := by
  rw [Lib.decDigits]; split <;> simp
theorem decDigits_head (u : Nat) : ∃ c r, Lib.decDigits u = c :: r ∧ 48 ≤ c.toNat ∧ c.toNat ≤ 57 := by
  induction u using Nat.strongRecOn with
  | _ u ih =>
    rw [Lib.decDigits]
    split
    · rename_i h
      exact ⟨_, [], rfl, by rw [ofNat_dig u h]; omega, by rw [ofNat_dig u h]; omega⟩
    · rename_i h
      obtain ⟨c, r, e, h1, h2⟩ := ih (u / 10) (by omega)
      exact ⟨c, _, by rw [e]; rfl, h1, h2⟩
theorem atoi_itoa (u : Nat) (hu : u < 9223372036854775808) : Lib.atoiAll (Lib.itoa u) = .ok (u : Int) := by
  rw [Lib.itoa_nonneg]
  obtain ⟨c, r, e, h1, h2⟩ := decDigits_head u
  have hp := parse_dec u [] hu
  rw [List.append_nil] at hp
  rw [e, Lib.atoiAll_plain c r (by omega) (by omega), Lib.parseMag, if_neg (by simp), ← e, hp]
  simp only [Lib.parseUint10, Lib.signless]
  first | rfl | (rw [if_neg (by omega)])
/-- A number from 0 up to a greatest one, without zeros in front. -/
def numS (s : List UInt8) (m : Int) : Option Int :=
  if (atoiB s && (Lib.itoa (atoiN s) == s) && decide (0 ≤ atoiN s) && decide (atoiN s ≤ m)) = true then some (atoiN s) else none
theorem atoiN_itoa (u : Nat) (hu : u < 9223372036854775808) : atoiN (Lib.itoa u) = u ∧ atoiB (Lib.itoa u) = true := by
  simp only [atoiN, atoiB, atoi_itoa u hu, and_self]
theorem atoiN_bounds {s : List UInt8} (h : atoiB s = true) : -9223372036854775808 ≤ atoiN s ∧ atoiN s ≤ 9223372036854775807 := by
  unfold atoiB at h
  unfold atoiN
  split at h
  · rename_i v e; rw [e]; exact Lib.atoiAll_bounds e
  · cases h
/-- What is answered of a number. -/
def NumR (o : Option Int) (r : AV) : Prop := match o with
  | some n => r = .tup [.int .i64 n, .bool true]
  | none => ∃ n, r = .tup [.int .i64 n, .bool false]
section
variable {W0 : World} {h : EH} {k : AV → EH → Prop} {c : Int} {s : List UInt8} {m : Int}
theorem eqs_atoi {K : AV → Prop} (b : Bool) : xW (.eqs .ifc false (.c (if b = true then .pl .nilIface else .iface 273 .any)) (.c (.pl .nilIface))) h K = K (.bool b) := by
  cases b with
  | true => simp only [if_true]; rw [eqs_ni]; rfl
  | false => simp only [Bool.false_eq_true, if_false]; rw [eqs_if]
theorem c48 (ws : WS W0) (hl : s.length ≤ 1000000) (hk : ∀ h' r, Ext h h' → NumR (numS s m) r → k r h') : SCalls Tryz.prog W0 48 [.str s, .int .i64 m] h k := by
  refine W48_ok ?_
  unfold W48
  refine ca_i rfl (atoi_ok ws (by omega) ?_)
  try simp only [go_sem, EH.n_push, EH.n_set, List.getElem?_cons_zero, List.getElem?_cons_succ, List.head?_cons, List.drop_succ_cons, List.drop_zero, List.take_succ_cons, List.take_zero, List.length_cons, List.length_nil, List.all_cons, List.all_nil, List.map_cons, List.map_nil, Nat.reduceAdd, Nat.reduceLeDiff, Nat.reduceEqDiff, Nat.reduceSub, Nat.zero_add, Nat.le_refl, Int.toNat_zero, Int.reduceToNat, Int.toNat_natCast, and_self, and_true, true_and, if_true, if_false, ↓reduceIte, Bool.and_true, Bool.and_self, Bool.true_and, Bool.false_eq_true, reduceCtorEq, AV.isSize, beq_self_eq_true, decide_true, decide_false, List.nil_append, forall_const, Bool.not_true, Bool.not_false, imp_self, true_implies, false_implies, List.getD_cons_zero, List.getD_cons_succ, Int.reduceLE, Int.reduceLT, Int.cast_ofNat_Int, bne_self_eq_false]
  rw [eqs_atoi]
  refine and_i (b := ?_) (fun q J hJ => ?_) (fun h1 e1 => ?_); rotate_left
  · have := atoiN_bounds q
    refine ca_i rfl (itoa_ok ws this.1 this.2 ?_)
    try simp only [go_sem, EH.n_push, EH.n_set, List.getElem?_cons_zero, List.getElem?_cons_succ, List.head?_cons, List.drop_succ_cons, List.drop_zero, List.take_succ_cons, List.take_zero, List.length_cons, List.length_nil, List.all_cons, List.all_nil, List.map_cons, List.map_nil, Nat.reduceAdd, Nat.reduceLeDiff, Nat.reduceEqDiff, Nat.reduceSub, Nat.zero_add, Nat.le_refl, Int.toNat_zero, Int.reduceToNat, Int.toNat_natCast, and_self, and_true, true_and, if_true, if_false, ↓reduceIte, Bool.and_true, Bool.and_self, Bool.true_and, Bool.false_eq_true, reduceCtorEq, AV.isSize, beq_self_eq_true, decide_true, decide_false, List.nil_append, forall_const, Bool.not_true, Bool.not_false, imp_self, true_implies, false_implies, List.getD_cons_zero, List.getD_cons_succ, Int.reduceLE, Int.reduceLT, Int.cast_ofNat_Int, bne_self_eq_false]
    exact hJ _ (.refl _)
  · refine and_i (b := ?_) (fun q J hJ => ?_) (fun h2 e2 => ?_); rotate_left
    · try simp only [go_sem, EH.n_push, EH.n_set, List.getElem?_cons_zero, List.getElem?_cons_succ, List.head?_cons, List.drop_succ_cons, List.drop_zero, List.take_succ_cons, List.take_zero, List.length_cons, List.length_nil, List.all_cons, List.all_nil, List.map_cons, List.map_nil, Nat.reduceAdd, Nat.reduceLeDiff, Nat.reduceEqDiff, Nat.reduceSub, Nat.zero_add, Nat.le_refl, Int.toNat_zero, Int.reduceToNat, Int.toNat_natCast, and_self, and_true, true_and, if_true, if_false, ↓reduceIte, Bool.and_true, Bool.and_self, Bool.true_and, Bool.false_eq_true, reduceCtorEq, AV.isSize, beq_self_eq_true, decide_true, decide_false, List.nil_append, forall_const, Bool.not_true, Bool.not_false, imp_self, true_implies, false_implies, List.getD_cons_zero, List.getD_cons_succ, Int.reduceLE, Int.reduceLT, Int.cast_ofNat_Int, bne_self_eq_false]
      exact hJ _ (.refl _)
    · refine and_i (b := ?_) (fun q J hJ => ?_) (fun h3 e3 => ?_); rotate_left
      · try simp only [go_sem, EH.n_push, EH.n_set, List.getElem?_cons_zero, List.getElem?_cons_succ, List.head?_cons, List.drop_succ_cons, List.drop_zero, List.take_succ_cons, List.take_zero, List.length_cons, List.length_nil, List.all_cons, List.all_nil, List.map_cons, List.map_nil, Nat.reduceAdd, Nat.reduceLeDiff, Nat.reduceEqDiff, Nat.reduceSub, Nat.zero_add, Nat.le_refl, Int.toNat_zero, Int.reduceToNat, Int.toNat_natCast, and_self, and_true, true_and, if_true, if_false, ↓reduceIte, Bool.and_true, Bool.and_self, Bool.true_and, Bool.false_eq_true, reduceCtorEq, AV.isSize, beq_self_eq_true, decide_true, decide_false, List.nil_append, forall_const, Bool.not_true, Bool.not_false, imp_self, true_implies, false_implies, List.getD_cons_zero, List.getD_cons_succ, Int.reduceLE, Int.reduceLT, Int.cast_ofNat_Int, bne_self_eq_false]
        exact hJ _ (.refl _)
      · try simp only [go_sem, EH.n_push, EH.n_set, List.getElem?_cons_zero, List.getElem?_cons_succ, List.head?_cons, List.drop_succ_cons, List.drop_zero, List.take_succ_cons, List.take_zero, List.length_cons, List.length_nil, List.all_cons, List.all_nil, List.map_cons, List.map_nil, Nat.reduceAdd, Nat.reduceLeDiff, Nat.reduceEqDiff, Nat.reduceSub, Nat.zero_add, Nat.le_refl, Int.toNat_zero, Int.reduceToNat, Int.toNat_natCast, and_self, and_true, true_and, if_true, if_false, ↓reduceIte, Bool.and_true, Bool.and_self, Bool.true_and, Bool.false_eq_true, reduceCtorEq, AV.isSize, beq_self_eq_true, decide_true, decide_false, List.nil_append, forall_const, Bool.not_true, Bool.not_false, imp_self, true_implies, false_implies, List.getD_cons_zero, List.getD_cons_succ, Int.reduceLE, Int.reduceLT, Int.cast_ofNat_Int, bne_self_eq_false]
        refine hk _ _ ((e1.trans e2).trans e3) ?_
        unfold numS
        split
        · rename_i q; show AV.tup [.int .i64 (atoiN s), .bool _] = AV.tup [.int .i64 (atoiN s), .bool true]; rw [q]
        · rename_i q; rw [Bool.not_eq_true] at q; exact ⟨atoiN s, by rw [q]⟩
theorem numS_itoa {u : Nat} (hu : (u : Int) ≤ m) (hm : m < 1000) : numS (Lib.itoa u) m = some (u : Int) := by
  obtain ⟨a, b⟩ := atoiN_itoa u (by omega)
  unfold numS
  rw [a, b, if_pos]
  simp
  omega
theorem c125 (ws : WS W0) (hm : 0 ≤ m ∧ m < 1000) (hk : ∀ h' r, Ext h h' → NumR (numS s m) r → k r h') : SCalls Tryz.prog W0 125 [.str s, .int .i64 m] h k := by
  refine W125_ok ?_
  unfold W125
  refine ⟨fun n v h' => Ext h h' ∧ ∃ i : Nat, v = .int .i64 i ∧ n = 2000 - i ∧ i ≤ 1000 ∧ ∀ j : Nat, j < i → Lib.itoa j ≠ s, 2000, ⟨.refl h, 0, rfl, rfl, by omega, fun j hj => by omega⟩, ?_⟩
  rintro n v h1 ⟨e1, i, rfl, rfl, hi, hp⟩
  try simp only [go_sem, EH.n_push, EH.n_set, List.getElem?_cons_zero, List.getElem?_cons_succ, List.head?_cons, List.drop_succ_cons, List.drop_zero, List.take_succ_cons, List.take_zero, List.length_cons, List.length_nil, List.all_cons, List.all_nil, List.map_cons, List.map_nil, Nat.reduceAdd, Nat.reduceLeDiff, Nat.reduceEqDiff, Nat.reduceSub, Nat.zero_add, Nat.le_refl, Int.toNat_zero, Int.reduceToNat, Int.toNat_natCast, and_self, and_true, true_and, if_true, if_false, ↓reduceIte, Bool.and_true, Bool.and_self, Bool.true_and, Bool.false_eq_true, reduceCtorEq, AV.isSize, beq_self_eq_true, decide_true, decide_false, List.nil_append, forall_const, Bool.not_true, Bool.not_false, imp_self, true_implies, false_implies, List.getD_cons_zero, List.getD_cons_succ, Int.reduceLE, Int.reduceLT, Int.cast_ofNat_Int, bne_self_eq_false]
  refine ⟨fun q => ?_, fun q => ?_⟩
  · simp only [decide_eq_true_eq] at q
    refine ca_i rfl (itoa_ok ws (by omega) (by omega) ?_)
    try simp only [go_sem, EH.n_push, EH.n_set, List.getElem?_cons_zero, List.getElem?_cons_succ, List.head?_cons, List.drop_succ_cons, List.drop_zero, List.take_succ_cons, List.take_zero, List.length_cons, List.length_nil, List.all_cons, List.all_nil, List.map_cons, List.map_nil, Nat.reduceAdd, Nat.reduceLeDiff, Nat.reduceEqDiff, Nat.reduceSub, Nat.zero_add, Nat.le_refl, Int.toNat_zero, Int.reduceToNat, Int.toNat_natCast, and_self, and_true, true_and, if_true, if_false, ↓reduceIte, Bool.and_true, Bool.and_self, Bool.true_and, Bool.false_eq_true, reduceCtorEq, AV.isSize, beq_self_eq_true, decide_true, decide_false, List.nil_append, forall_const, Bool.not_true, Bool.not_false, imp_self, true_implies, false_implies, List.getD_cons_zero, List.getD_cons_succ, Int.reduceLE, Int.reduceLT, Int.cast_ofNat_Int, bne_self_eq_false]
    refine ⟨fun q2 => ?_, fun q2 => ?_⟩
    · have q3 : Lib.itoa (i : Int) = s := by simpa using q2
      refine hk _ _ e1 ?_
      rw [← q3, numS_itoa q hm.2]
      rfl
    · try simp only [go_sem, EH.n_push, EH.n_set, List.getElem?_cons_zero, List.getElem?_cons_succ, List.head?_cons, List.drop_succ_cons, List.drop_zero, List.take_succ_cons, List.take_zero, List.length_cons, List.length_nil, List.all_cons, List.all_nil, List.map_cons, List.map_nil, Nat.reduceAdd, Nat.reduceLeDiff, Nat.reduceEqDiff, Nat.reduceSub, Nat.zero_add, Nat.le_refl, Int.toNat_zero, Int.reduceToNat, Int.toNat_natCast, and_self, and_true, true_and, if_true, if_false, ↓reduceIte, Bool.and_true, Bool.and_self, Bool.true_and, Bool.false_eq_true, reduceCtorEq, AV.isSize, beq_self_eq_true, decide_true, decide_false, List.nil_append, forall_const, Bool.not_true, Bool.not_false, imp_self, true_implies, false_implies, List.getD_cons_zero, List.getD_cons_succ, Int.reduceLE, Int.reduceLT, Int.cast_ofNat_Int, bne_self_eq_false]
      rw [w64 (by omega) (by omega)]
      refine ⟨_, ?_, e1, i + 1, rfl, rfl, by omega, fun j hj => ?_⟩
      · omega
      · by_cases z : j = i
        · subst z; simpa using q2
        · exact hp j (by omega)
  · simp only [decide_eq_false_iff_not] at q
    refine hk _ _ e1 ?_
    have : numS s m = none := by
      unfold numS
      split
      · rename_i z
        simp only [Bool.and_eq_true, beq_iff_eq, decide_eq_true_eq] at z
        obtain ⟨⟨⟨z1, z2⟩, z3⟩, z4⟩ := z
        exfalso
        have h2 : ((atoiN s).toNat : Int) = atoiN s := by omega
        refine hp (atoiN s).toNat (by omega) ?_
        rw [h2]; exact z2
      · rfl
    rw [this]
    exact ⟨0, rfl⟩
end
end Go.Proofs.YtnpkhnlcpeebcaaGreatDoor
/- Contracts: paths, the lines of entities. -/
set_option maxRecDepth 100000
namespace Go.Proofs.YtnpkhnlcpeebcaaGreatDoor
open Go Go.Qa Go.Proofs

/-- A text cut at the first byte c. -/
def cutL (c : UInt8) : List UInt8 → List UInt8 × List UInt8 × Bool
  | [] => ([], [], false)
  | b :: l => if b = c then ([], l, true) else (b :: (cutL c l).1, (cutL c l).2.1, (cutL c l).2.2)
theorem cut_eq (c : UInt8) : ∀ s, Lib.cut s [c] = cutL c s
  | [] => by simp [Lib.cut, Lib.index_one, Lib.indexByte, cutL]
  | b :: l => by
    have ih := cut_eq c l
    simp only [Lib.cut, Lib.index_one, List.length_cons, List.length_nil] at ih ⊢
    by_cases e : b = c
    · subst e
      simp [Lib.indexByte, cutL]
    · have hb : (b == c) = false := by simpa using e
      simp only [cutL, if_neg e]
      rcases Lib.index_spec l [c] with ⟨h1, _⟩ | ⟨i, h1, _⟩
      · rw [Lib.index_one] at h1
        rw [h1] at ih
        have hx : Lib.indexByte (b :: l) c = -1 := by simp [Lib.indexByte, hb, h1]
        rw [hx]
        simp at ih ⊢
        rw [← ih]
        simp
      · rw [Lib.index_one] at h1
        rw [h1] at ih
        have hx : Lib.indexByte (b :: l) c = ((i + 1 : Nat) : Int) := by
          simp only [Lib.indexByte, hb, h1]
          have : ((i : Int) == -1) = false := by rw [beq_eq_false_iff_ne]; omega
          simp [this]
        rw [hx]
        rw [if_pos (by omega)] at ih ⊢
        rw [← ih]
        simp
theorem cutL_spl (c : UInt8) : ∀ s, spl c s = if (cutL c s).2.2 = true then (cutL c s).1 :: spl c (cutL c s).2.1 else [(cutL c s).1]
  | [] => rfl
  | b :: l => by
    by_cases e : b = c
    · simp [spl, cutL, e]
    · simp only [spl, cutL, if_neg e, cutL_spl c l]
      cases (cutL c l).2.2 <;> simp
theorem cutL_not (c : UInt8) : ∀ s, (cutL c s).2.2 = false → (cutL c s).1 = s ∧ (cutL c s).2.1 = []
  | [], _ => ⟨rfl, rfl⟩
  | b :: l, h => by
    by_cases e : b = c
    · simp [cutL, e] at h
    · simp only [cutL, if_neg e] at h ⊢
      obtain ⟨a, b'⟩ := cutL_not c l h
      rw [a]; exact ⟨rfl, b'⟩
theorem cutL_mem (c : UInt8) : ∀ s, (cutL c s).2.2 = true → c ∈ s
  | [], h => by simp [cutL] at h
  | b :: l, h => by
    by_cases e : b = c
    · simp [e]
    · simp only [cutL, if_neg e] at h
      exact List.mem_cons_of_mem _ (cutL_mem c l h)
theorem spl_len1 (c : UInt8) (s : List UInt8) : 1 ≤ (spl c s).length := by
  rw [cutL_spl]; split <;> simp
theorem cutL_len (c : UInt8) : ∀ s, (cutL c s).1.length ≤ s.length ∧ (cutL c s).2.1.length ≤ s.length
  | [] => ⟨by simp [cutL], by simp [cutL]⟩
  | b :: l => by
    have := cutL_len c l
    simp only [cutL]
    split <;> simp <;> omega
/-- A path: a name, or two. -/
def pathS (s : List UInt8) : Bool := (spl 37 s).all isNm && decide ((spl 37 s).length ≤ 2)
theorem isNm_no37 {s : List UInt8} (h : isNm s = true) : (37 : UInt8) ∉ s := by
  intro hm
  simp only [isNm, Bool.and_eq_true, List.all_eq_true] at h
  have := h.2 37 hm
  revert this
  decide
theorem spl_one {c : UInt8} {s : List UInt8} (h : c ∉ s) : spl c s = [s] := by
  rw [cutL_spl]
  have : (cutL c s).2.2 = false := by
    rw [Bool.eq_false_iff]; exact fun q => h (cutL_mem c s q)
  rw [this, (cutL_not c s this).1]
  rfl
theorem path_eq (s : List UInt8) : (isNm (cutL 37 s).1 && (!(cutL 37 s).2.2 || isNm (cutL 37 s).2.1)) = pathS s := by
  unfold pathS
  rw [cutL_spl 37 s]
  cases ht : (cutL 37 s).2.2 with
  | false => simp
  | true =>
    simp only [if_true, List.all_cons, List.length_cons, Bool.not_true, Bool.false_or]
    rw [Bool.and_assoc]
    congr 1
    rw [Bool.eq_iff_iff]
    simp only [Bool.and_eq_true, decide_eq_true_eq]
    constructor
    · intro h
      rw [spl_one (isNm_no37 h)]
      simp [h]
    · rintro ⟨h1, h2⟩
      have h3 := spl_len1 37 (cutL 37 s).2.1
      rw [cutL_spl] at h1 h2 h3
      cases hu : (cutL 37 (cutL 37 s).2.1).2.2 with
      | true =>
        rw [hu] at h2
        have := spl_len1 37 (cutL 37 (cutL 37 s).2.1).2.1
        simp only [if_true, List.length_cons] at h2
        omega
      | false =>
        rw [hu] at h1
        rw [(cutL_not 37 _ hu).1] at h1
        simpa using h1
theorem str_getD (l : List (List UInt8)) (i : Nat) (h : i < l.length) : (((l.map AV.str).getD i .any).cells) = [.str (l.getD i [])] := by
  rw [List.getD_eq_getElem?_getD, List.getElem?_map, List.getElem?_eq_getElem h, List.getD_eq_getElem?_getD, List.getElem?_eq_getElem h]
  rfl
theorem all_take_strs (p : List UInt8 → Bool) (s : List (List UInt8)) (i : Nat) (h : i < s.length) : (s.take (i + 1)).all p = ((s.take i).all p && p (s.getD i [])) := by
  rw [List.take_succ, List.all_append]
  congr 1
  rw [List.getElem?_eq_getElem h, List.getD_eq_getElem?_getD, List.getElem?_eq_getElem h]
  simp
theorem all_false_strs (p : List UInt8 → Bool) (s : List (List UInt8)) (i : Nat) (h : i < s.length) (hp : p (s.getD i []) = false) : s.all p = false := by
  rw [Bool.eq_false_iff]
  intro q
  rw [List.all_eq_true] at q
  have := q (s.getD i []) (by rw [List.getD_eq_getElem?_getD, List.getElem?_eq_getElem h]; exact List.getElem_mem h)
  rw [hp] at this; cases this
section
variable {W0 : World} {h : EH} {k : AV → EH → Prop} {c : Int} {s : List UInt8} {m : Int}
theorem c120 (ws : WS W0) (hl : s.length ≤ 100000) (hk : ∀ h', Ext h h' → k (.bool (pathS s)) h') : SCalls Tryz.prog W0 120 [.str s] h k := by
  rw [← path_eq] at hk
  refine W120_ok ?_
  unfold W120
  refine ca_i rfl (cut_ok ws (by omega) ?_)
  rw [cut_eq]
  have hl2 := cutL_len 37 s
  try simp only [go_sem, EH.n_push, EH.n_set, List.getElem?_cons_zero, List.getElem?_cons_succ, List.head?_cons, List.drop_succ_cons, List.drop_zero, List.take_succ_cons, List.take_zero, List.length_cons, List.length_nil, List.all_cons, List.all_nil, List.map_cons, List.map_nil, Nat.reduceAdd, Nat.reduceLeDiff, Nat.reduceEqDiff, Nat.reduceSub, Nat.zero_add, Nat.le_refl, Int.toNat_zero, Int.reduceToNat, Int.toNat_natCast, and_self, and_true, true_and, if_true, if_false, ↓reduceIte, Bool.and_true, Bool.and_self, Bool.true_and, Bool.false_eq_true, reduceCtorEq, AV.isSize, beq_self_eq_true, decide_true, decide_false, List.nil_append, forall_const, Bool.not_true, Bool.not_false, imp_self, true_implies, false_implies, List.getD_cons_zero, List.getD_cons_succ, Int.reduceLE, Int.reduceLT, Int.cast_ofNat_Int, bne_self_eq_false]
  refine ca_i rfl (c47 (by omega) fun h1 e1 => ?_)
  refine and_i (b := ?_) (fun q J hJ => ?_) (fun h2 e2 => ?_); rotate_left
  · try simp only [go_sem, EH.n_push, EH.n_set, List.getElem?_cons_zero, List.getElem?_cons_succ, List.head?_cons, List.drop_succ_cons, List.drop_zero, List.take_succ_cons, List.take_zero, List.length_cons, List.length_nil, List.all_cons, List.all_nil, List.map_cons, List.map_nil, Nat.reduceAdd, Nat.reduceLeDiff, Nat.reduceEqDiff, Nat.reduceSub, Nat.zero_add, Nat.le_refl, Int.toNat_zero, Int.reduceToNat, Int.toNat_natCast, and_self, and_true, true_and, if_true, if_false, ↓reduceIte, Bool.and_true, Bool.and_self, Bool.true_and, Bool.false_eq_true, reduceCtorEq, AV.isSize, beq_self_eq_true, decide_true, decide_false, List.nil_append, forall_const, Bool.not_true, Bool.not_false, imp_self, true_implies, false_implies, List.getD_cons_zero, List.getD_cons_succ, Int.reduceLE, Int.reduceLT, Int.cast_ofNat_Int, bne_self_eq_false]
    refine or_i (b := ?_) (fun q2 J2 hJ2 => ?_) (fun h2 e2 => ?_); rotate_left
    · refine ca_i rfl (c47 (by omega) fun h3 e3 => ?_)
      exact hJ2 _ e3
    · exact hJ _ e2
  · try simp only [go_sem, EH.n_push, EH.n_set, List.getElem?_cons_zero, List.getElem?_cons_succ, List.head?_cons, List.drop_succ_cons, List.drop_zero, List.take_succ_cons, List.take_zero, List.length_cons, List.length_nil, List.all_cons, List.all_nil, List.map_cons, List.map_nil, Nat.reduceAdd, Nat.reduceLeDiff, Nat.reduceEqDiff, Nat.reduceSub, Nat.zero_add, Nat.le_refl, Int.toNat_zero, Int.reduceToNat, Int.toNat_natCast, and_self, and_true, true_and, if_true, if_false, ↓reduceIte, Bool.and_true, Bool.and_self, Bool.true_and, Bool.false_eq_true, reduceCtorEq, AV.isSize, beq_self_eq_true, decide_true, decide_false, List.nil_append, forall_const, Bool.not_true, Bool.not_false, imp_self, true_implies, false_implies, List.getD_cons_zero, List.getD_cons_succ, Int.reduceLE, Int.reduceLT, Int.cast_ofNat_Int, bne_self_eq_false]
    exact hk _ (e1.trans e2)
theorem c124 (ws : WS W0) (hl : s.length ≤ 100000) (hk : ∀ h', Ext h h' → k (.bool (pathS s)) h') : SCalls Tryz.prog W0 124 [.str s] h k := by
  refine W124_ok ?_
  unfold W124
  refine ca_i rfl (split_ok ws (by omega) ?_)
  have hs := spl_len 37 s
  unfold pathS at hk
  generalize spl 37 s = l at hk hs
  refine ⟨fun n v h' => Ext h h' ∧ ∃ i : Nat, v = .int .i64 i ∧ n = l.length - i ∧ i ≤ l.length ∧ (l.take i).all isNm = true, _, ⟨.refl h, 0, rfl, rfl, by omega, rfl⟩, ?_⟩
  rintro n v h1 ⟨e1, i, rfl, rfl, hi, hp⟩
  try simp only [go_sem, EH.n_push, EH.n_set, List.getElem?_cons_zero, List.getElem?_cons_succ, List.head?_cons, List.drop_succ_cons, List.drop_zero, List.take_succ_cons, List.take_zero, List.length_cons, List.length_nil, List.all_cons, List.all_nil, List.map_cons, List.map_nil, Nat.reduceAdd, Nat.reduceLeDiff, Nat.reduceEqDiff, Nat.reduceSub, Nat.zero_add, Nat.le_refl, Int.toNat_zero, Int.reduceToNat, Int.toNat_natCast, and_self, and_true, true_and, if_true, if_false, ↓reduceIte, Bool.and_true, Bool.and_self, Bool.true_and, Bool.false_eq_true, reduceCtorEq, AV.isSize, beq_self_eq_true, decide_true, decide_false, List.nil_append, forall_const, Bool.not_true, Bool.not_false, imp_self, true_implies, false_implies, List.getD_cons_zero, List.getD_cons_succ, Int.reduceLE, Int.reduceLT, Int.cast_ofNat_Int, bne_self_eq_false, List.length_map]
  refine ⟨fun q => ?_, fun q => ?_⟩
  · simp only [decide_eq_true_eq, Int.ofNat_lt] at q
    refine ⟨by omega, ?_⟩
    rw [str_getD l i q]
    try simp only [go_sem, EH.n_push, EH.n_set, List.getElem?_cons_zero, List.getElem?_cons_succ, List.head?_cons, List.drop_succ_cons, List.drop_zero, List.take_succ_cons, List.take_zero, List.length_cons, List.length_nil, List.all_cons, List.all_nil, List.map_cons, List.map_nil, Nat.reduceAdd, Nat.reduceLeDiff, Nat.reduceEqDiff, Nat.reduceSub, Nat.zero_add, Nat.le_refl, Int.toNat_zero, Int.reduceToNat, Int.toNat_natCast, and_self, and_true, true_and, if_true, if_false, ↓reduceIte, Bool.and_true, Bool.and_self, Bool.true_and, Bool.false_eq_true, reduceCtorEq, AV.isSize, beq_self_eq_true, decide_true, decide_false, List.nil_append, forall_const, Bool.not_true, Bool.not_false, imp_self, true_implies, false_implies, List.getD_cons_zero, List.getD_cons_succ, Int.reduceLE, Int.reduceLT, Int.cast_ofNat_Int, bne_self_eq_false]
    refine ca_i rfl (c54 fun h2 e2 => ?_)
    try simp only [go_sem, EH.n_push, EH.n_set, List.getElem?_cons_zero, List.getElem?_cons_succ, List.head?_cons, List.drop_succ_cons, List.drop_zero, List.take_succ_cons, List.take_zero, List.length_cons, List.length_nil, List.all_cons, List.all_nil, List.map_cons, List.map_nil, Nat.reduceAdd, Nat.reduceLeDiff, Nat.reduceEqDiff, Nat.reduceSub, Nat.zero_add, Nat.le_refl, Int.toNat_zero, Int.reduceToNat, Int.toNat_natCast, and_self, and_true, true_and, if_true, if_false, ↓reduceIte, Bool.and_true, Bool.and_self, Bool.true_and, Bool.false_eq_true, reduceCtorEq, AV.isSize, beq_self_eq_true, decide_true, decide_false, List.nil_append, forall_const, Bool.not_true, Bool.not_false, imp_self, true_implies, false_implies, List.getD_cons_zero, List.getD_cons_succ, Int.reduceLE, Int.reduceLT, Int.cast_ofNat_Int, bne_self_eq_false]
    refine ⟨fun q2 => ?_, fun q2 => ?_⟩
    · rw [all_false_strs isNm l i q (by simpa using q2)] at hk
      exact hk _ (e1.trans e2)
    · rw [w64 (by omega) (by omega)]
      exact ⟨_, by omega, e1.trans e2, i + 1, rfl, rfl, by omega, by rw [all_take_strs _ _ _ q, hp]; simpa using q2⟩
  · simp only [decide_eq_false_iff_not, Int.ofNat_lt] at q
    have : i = l.length := by omega
    subst this
    rw [List.take_length] at hp
    rw [hp] at hk
    have : (decide ((l.length : Int) ≤ 2)) = decide (l.length ≤ 2) := by
      rw [Bool.eq_iff_iff]; simp only [decide_eq_true_eq]; omega
    rw [this]
    simpa using hk _ e1
end
end Go.Proofs.YtnpkhnlcpeebcaaGreatDoor
