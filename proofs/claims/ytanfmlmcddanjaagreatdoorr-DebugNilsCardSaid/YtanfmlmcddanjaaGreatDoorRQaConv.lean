/- The abstract machine: strings and bytes. -/
import Derived.Test.YtanfmlmcddanjaaGreatDoorRQaIter
import Derived.Lib.ConvBytes
import Derived.Laws.BytesArg
set_option linter.all false
namespace Go.Qa
open Go Go.RowKit

def byteAV (b : UInt8) : AV := .int .u8 b.toNat
def byteOf : AV → Option UInt8
  | .int .u8 n => some (UInt8.ofNat n.toNat)
  | _ => none
/-- The elements of a slice of one-cell elements. -/
def elems1 (H : AHeap) : AV → Option (List AV)
  | .row _ _ sz es => if sz = 1 then some es else none
  | .pl (.slice none 0 _) => some []
  | .arr b start len sz => if sz = 1 then match H[b]? with
      | some (.cells cs) => if start + len ≤ cs.length then some ((cs.drop start).take len) else none
      | _ => none
    else none
  | _ => none
def b2sAV (H : AHeap) (x : AV) : Option AV := ((elems1 H x).bind fun es => es.mapM byteOf).map .str
def s2bAV (arr : Bool) (x : AV) (d : Option Nat) (K : AS → AHeap → Prop) (st : AS) (H : AHeap) : Prop :=
  match x with
  | .str s => if arr then K (st.set d (.arr H.length 0 s.length 1)) (H ++ [.cells (s.map byteAV)]) else K (st.set d (.row none false 1 (s.map byteAV))) H
  | _ => False

section
variable {W0 : World} {G0 : Ghost} {w0 : World} {N : Nat} {G G' : Ghost} {L : Nat → Option Nat} {st : AS} {H H' : AHeap} {ca : Act} {w w' : World} {P : Program} {o : Oper} {K : AS → AHeap → Prop} {Q : Exit → Act → World → Prop}

theorem freeze_new (w : World) (C : Array Value) (e : TypeId) : (w.alloc (.cells C e)).freeze ⟨w.heap.size, C.size, none⟩ 1 = w.alloc (.cells C e (C.size, C.size + 1)) := by
  unfold World.freeze
  rw [if_neg (by omega)]
  show ({ w with heap := _ } : World) = { w with heap := w.heap.push _ }
  congr 1
  show (w.heap.push _).modify w.heap.size _ = _
  apply Array.ext
  · simp
  · intro i h1 h2
    simp only [Array.getElem_modify, Array.getElem_push]
    by_cases q : i < w.heap.size
    · simp [q]; intro z; omega
    · have : i = w.heap.size := by simp at h1; omega
      subst this
      simp

theorem byteAVs_one (s : List UInt8) : ∀ c ∈ s.map byteAV, c.one = true := by
  intro c hc
  obtain ⟨b, _, rfl⟩ := List.mem_map.1 hc
  rfl
theorem byteAVs_rel (s : List UInt8) : VRels G (s.map byteAV) (s.map fun b => Value.int .u8 b.toNat) := by
  refine ⟨by simp, fun j hj => ?_⟩
  simp at hj
  simp [List.getD_eq_getElem?_getD, hj, byteAV]
  exact .int _ _

theorem s2b_sound (h : Rel W0 G0 w0 N G L st H ca w) {s d e : TypeId} {u : TypeDesc} (hs : P.underlying s = some u) (hd : P.underlying d = some (.slice e)) (he : P.underlying e = some (.int .u8)) {x : Operand} {x' : Opd} (hx : cOpd N x = some x')
    (hop : execOp ca.eval o = (do pure (.value (← convert s d (ca.eval x))))) {arr : Bool} (k : s2bAV arr (st.ev x') o.dst K st H) : o.wp P ca w (Post W0 G0 w0 N K) Q := by
  have h1 := h.opd hx
  unfold s2bAV at k
  split at k
  · rename_i l e1
    rw [e1] at h1
    obtain ⟨e2, hlen⟩ := h1.str
    have run := Lib.run_convert_string_bytes (P := P) w s d e (bs l) hs hd he
    rw [bs_size] at run
    have hcap := grownCap_bound w l.length 0 e (by unfold maxLen at hlen; omega)
    have hcells : Lib.bytesCells w e (bs l) = ((l.map fun (b : UInt8) => Value.int .u8 b.toNat) ++ List.replicate (grownCap w l.length 0 e - l.length) (Value.int .u8 0)).toArray := by
      apply Array.ext'
      simp [Lib.bytesCells, bs, ByteArray.size]
    have hsz : (Lib.bytesCells w e (bs l)).size = grownCap w l.length 0 e := by
      rw [hcells]; simp; omega
    have hw : Lib.bytesWorld w e (bs l) = w.drew.alloc (.cells (Lib.bytesCells w e (bs l)) e ((Lib.bytesCells w e (bs l)).size, (Lib.bytesCells w e (bs l)).size + 1)) := by
      unfold Lib.bytesWorld
      exact freeze_new w.drew _ _
    rw [hw] at run
    have hd' := h.drew
    cases arr with
    | false =>
      simp only [Bool.false_eq_true, if_false] at k
      have hi := hd'.inv.addR (Lib.bytesCells w e (bs l)) e ((Lib.bytesCells w e (bs l)).size, (Lib.bytesCells w e (bs l)).size + 1) l.length 0 (by omega) false (by simp)
      have hn := hd'.inv.addR_next (.cells (Lib.bytesCells w e (bs l)) e ((Lib.bytesCells w e (bs l)).size, (Lib.bytesCells w e (bs l)).size + 1)) (Lib.bytesCells w e (bs l)).size (fun o => if o < l.length then (Lib.bytesCells w e (bs l))[o]? else none) 0 none
      simp only [Bool.false_eq_true, if_false] at hi
      refine wp_value0 (by rw [hop, e2]; simp only [Sem.run_bind, run, Result.andThen_ok, Sem.run_pure]; rfl) ?_
      refine ⟨_, _, k, _, _, (hd'.step hn hi).set o.dst (.of ?_) (by simp)⟩
      have hrow := row_of_imm (G := G.addR w.drew.heap.size (Lib.bytesCells w e (bs l)).size (fun o => if o < l.length then (Lib.bytesCells w e (bs l))[o]? else none) H.length 0 none) (own := none) (full := false) (esz := 1) (es := l.map byteAV) (B := w.drew.heap.size) (o := 0) (cap := grownCap w l.length 0 e)
        (us := l.map fun b => Value.int .u8 b.toNat) (fun x hx => isSize_one (byteAVs_one l x hx)) (by rw [flat_one (byteAVs_one l)]; exact byteAVs_rel l) (fun q u hq => by
          have hlt := (List.getElem?_eq_some_iff.1 hq).1
          simp at hlt
          simp only [Ghost.addR, if_true, Nat.zero_add]
          rw [if_pos hlt, hcells, List.getElem?_toArray, List.getElem?_append_left (by simpa using hlt)]
          exact hq) (by simpa using hcap.1) hcap.2 (by simp) (by simp)
      simpa using hrow
    | true =>
      simp only [if_true] at k
      obtain ⟨G', hn, hi, hb, hsz'⟩ := hd'.inv.newBoxRoom (l.map byteAV) (Lib.bytesCells w e (bs l)) e ((Lib.bytesCells w e (bs l)).size, (Lib.bytesCells w e (bs l)).size + 1) (fun o ho q => by simp at q; omega) (by simp; omega) (fun j hj => by
          simp at hj
          rw [hcells, List.toList_toArray]
          have := (byteAVs_rel (G := G) l).2 j (by simpa using hj)
          rw [List.getD_eq_getElem?_getD (l := _ ++ _), List.getElem?_append_left (by simpa using hj), ← List.getD_eq_getElem?_getD]
          exact this) (byteAVs_one l)
      refine wp_value0 (by rw [hop, e2]; simp only [Sem.run_bind, run, Result.andThen_ok, Sem.run_pure]; rfl) ?_
      refine ⟨_, _, k, _, _, (hd'.step hn hi).set o.dst (.of ?_) (by simp)⟩
      have := VRel.arr (G := G') H.length 0 l.length 1 w.heap.size (grownCap w l.length 0 e) _ hb hcap.1 hcap.2 hsz' (by rw [hsz]; omega)
      simpa using this
  · exact k.elim

theorem toBytes_get : ∀ {es : List AV} {l : List UInt8}, es.mapM byteOf = some l → ∃ ns : List Int, es = ns.map (AV.int .u8) ∧ l = ns.map fun n => UInt8.ofNat n.toNat
  | [], l, h => by simp at h; subst h; exact ⟨[], rfl, rfl⟩
  | e :: es, l, h => by
    simp only [List.mapM_cons, Option.bind_eq_bind, Option.bind_eq_some_iff, Option.pure_def, Option.some.injEq] at h
    obtain ⟨b, hb, l', hl, rfl⟩ := h
    obtain ⟨ns, rfl, rfl⟩ := toBytes_get hl
    unfold byteOf at hb
    split at hb
    · rename_i n
      cases hb
      exact ⟨n :: ns, rfl, rfl⟩
    · cases hb
theorem ints_vals {ns : List Int} {us : List Value} (h : VRels G (ns.map (AV.int .u8)) us) : us = ns.map (Value.int .u8) := by
  induction ns generalizing us with
  | nil => exact h.eq_nil
  | cons n ns ih =>
    obtain ⟨v, vs', rfl, h1, h2⟩ := h.head
    cases h1
    rw [ih h2]; rfl

theorem b2s_sound (h : Rel W0 G0 w0 N G L st H ca w) {s d e : TypeId} (hs : P.underlying s = some (.slice e)) (he : P.underlying e = some (.int .u8)) (hd : P.underlying d = some .string) {x : Operand} {x' : Opd} (hx : cOpd N x = some x')
    {r : AV} (hr : b2sAV H (st.ev x') = some r) : Gives P G L st w (convert s d (ca.eval x)) r := by
  have h1 := h.opd hx
  simp only [b2sAV, Option.map_eq_some_iff, Option.bind_eq_some_iff] at hr
  obtain ⟨l, ⟨es, hes, hl⟩, rfl⟩ := hr
  obtain ⟨ns, rfl, rfl⟩ := toBytes_get hl
  -- the cells
  have key : (∃ cap, ca.eval x = .slice none 0 cap ∧ ns = []) ∨ ∃ a cap, ca.eval x = .slice (some a) ns.length cap ∧ cap ≤ maxLen ∧ ns.length ≤ cap ∧ ∀ j v, (ns.map (Value.int .u8))[j]? = some v → w.cell? (a.add j) = some v := by
    generalize ca.eval x = vx at *
    generalize st.ev x' = a at *
    unfold elems1 at hes
    split at hes
    · rename_i own full sz es0
      split at hes
      · rename_i hsz
        cases hes
        subst hsz
        have hr := h1.rel (by simp)
        obtain ⟨a, cap, rfl⟩ : ∃ a cap, vx = .slice (some a) (ns.map (AV.int .u8)).length cap := by cases hr; exact ⟨_, _, rfl⟩
        obtain ⟨_, hsp, us, hus, him⟩ := row_cells hr
        have hcap : cap ≤ maxLen ∧ (ns.map (AV.int .u8)).length ≤ cap := by cases hr; exact ⟨by assumption, by assumption⟩
        rw [flat_one (by intro c hc; obtain ⟨n, _, rfl⟩ := List.mem_map.1 hc; rfl)] at hus
        have := ints_vals hus
        subst this
        simp at hcap hsp
        refine .inr ⟨a, cap, by simp, hcap.1, hcap.2, fun j v hj => ?_⟩
        have hlt := (List.getElem?_eq_some_iff.1 hj).1
        simp at hlt
        have e3 : a = ⟨a.block, a.off, none⟩ := by
          have := hsp (by omega)
          cases a; simp_all
        rw [e3, add_plain]
        exact (h.inv.imm _ _ _ (him j v hj)).2
      · cases hes
    · rename_i c
      have hn := Option.some.inj hes
      refine .inl ⟨c, h1.pl, ?_⟩
      simpa using hn.symm
    · rename_i b start len sz
      split at hes
      · rename_i hsz
        subst hsz
        split at hes
        · rename_i cs hb
          split at hes
          · rename_i hle
            have hes' := Option.some.inj hes
            have hr := h1.rel (by simp)
            cases hr with
            | arr _ _ _ _ B cap z hB hc hx' hs' hz =>
              obtain ⟨B', vs, ty, fz, hB', hh, hsz', hfz, hl', hcv⟩ := h.inv.obj b _ hb
              rw [hB] at hB'; cases hB'
              have hlen : ns.length = len := by have := congrArg List.length hes'; simp at this; omega
              have hrels : VRels G (ns.map (AV.int .u8)) ((vs.toList.drop start).take len) := by
                rw [← hes']
                refine ⟨by simp; omega, fun j hj => ?_⟩
                simp at hj
                rw [getD_take _ _ _ _ (by omega), getD_take _ _ _ _ (by omega), getD_drop, getD_drop]
                exact (hcv _ (by omega)).2
              have := ints_vals hrels
              refine .inr ⟨_, cap, by rw [hlen], hx', by omega, fun j v hj => ?_⟩
              rw [← this] at hj
              have hlt := (List.getElem?_eq_some_iff.1 hj).1
              simp at hlt
              rw [List.getElem?_take_of_lt (by omega), List.getElem?_drop] at hj
              rw [add_plain]
              simp only [World.cell?, hh, Nat.mul_one]
              simpa using hj
          · cases hes
        · cases hes
      · cases hes
    · cases hes
  rcases key with ⟨cap, e1, rfl⟩ | ⟨a, cap, e1, hcm, hle, hcells⟩
  · rw [e1]
    refine .rel (v := .string (bs [])) ?_ (.str [] (by simp))
    rw [run_convert_bytes_string w s d e none 0 cap hs he hd]
    rfl
  · rw [e1]
    refine .rel (v := .string (bs (ns.map fun n => UInt8.ofNat n.toNat))) ?_ (.str _ (by simp; omega))
    rw [run_convert_bytes_string w s d e (some a) ns.length cap hs he hd]
    have hload := run_loadCells_list (P := P) w a (ns.map (Value.int .u8)) hcells
    rw [List.length_map] at hload
    rw [run_bytesToString w a ns.length cap ns hload, foldl_push_bytes]
    congr 2
    apply ByteArray.ext
    simp [bs]
end
end Go.Qa
