/- The abstract machine: slices of boxes that grow; slices that are made; copies. -/
import Derived.Test.YtnaahdcahghldaaGreatDoorQs2
import Derived.Laws.MakeOwn
import Derived.Lib.SliceRun
import Derived.Test.YtnaahdcahghldaaGreatDoorQs3
import Derived.Deep.LoopGhost
import Derived.OrdersIn
import Derived.TacticsIn
import Derived.RangeFuncCalls
import Derived.RangeFuncWrites
import Derived.RangeFuncLeaves
import Derived.Sort.LoopGhostIn
import Derived.Scope
set_option linter.all false
namespace Go.Qa
open Go Go.RowKit
section
variable {W0 : World} {H : AHeap} {G G' : Ghost} {w w' : World}

/-- A box is given up, and another one lies in its block. -/
def Ghost.rebox (G : Ghost) (i B : Nat) : Ghost := { G with bx := fun j => if j = i then some B else G.bx j }
theorem HInv.rebox (h : HInv W0 H G w) (b B E : Nat) (cs cs' : List AV) (nvs : List Value) (vs : Array Value) (ty : TypeId) (fz : Nat × Nat) (hb : H[b]? = some (.cells cs)) (hB : G.bx b = some B)
    (hh : w.heap[B]? = some (.cells vs ty fz)) (hE : E + nvs.length ≤ vs.size) (hl : cs'.length ≤ vs.size) (hv : ∀ j, j < cs'.length → (cs'.getD j .any).one = true ∧ VRel G (cs'.getD j .any) ((over vs.toList E nvs).getD j undef)) :
    HInv W0 (H.set b AObj.dead ++ [.cells cs']) (G.rebox H.length B) (w.setCells B E nvs) ∧ Next G w (G.rebox H.length B) (w.setCells B E nvs) ∧ G.sz B = some vs.size := by
  obtain ⟨B', vs', ty', fz', hB', hh', hs, hfz, hle, hcv⟩ := h.obj b _ hb
  rw [hB] at hB'; cases hB'
  rw [hh] at hh'; cases hh'
  have hlb : H[b]? ≠ some AObj.dead := by rw [hb]; simp
  have hblen : b < H.length := (List.getElem?_eq_some_iff.1 hb).1
  have hnat : ∀ t n E', G.at_ t n ≠ some (B, E') := fun t n E' q => hlb ((h.ats t n B E' q).2.2 b hB)
  have hlen : (H.set b AObj.dead ++ [AObj.cells cs']).length = H.length + 1 := by simp
  have hlv : ∀ i, i < H.length → (H.set b AObj.dead ++ [AObj.cells cs'])[i]? ≠ some AObj.dead → i ≠ b ∧ H[i]? ≠ some AObj.dead := fun i hi z => by
    have z2 := live_append (l := [AObj.cells cs']) (H := H.set b AObj.dead) (i := i) (by simpa using hi) z
    by_cases e : b = i
    · subst e; rw [List.getElem?_set_self hblen] at z2; exact absurd rfl z2
    · rw [List.getElem?_set_ne e] at z2; exact ⟨fun q => e q.symm, z2⟩
  have hdd : ∀ i, H[i]? = some AObj.dead → (H.set b AObj.dead ++ [AObj.cells cs'])[i]? = some AObj.dead := fun i z => dead_append (dead_set hb (by simp) z)
  have hle' : G.le (G.rebox H.length B) := by
    refine ⟨fun i C e => ?_, fun _ _ _ e => e, fun _ _ _ e => e, fun _ _ e => e, fun _ _ _ e => .inl e⟩
    have := (h.bxs i C e).1
    simp only [Ghost.rebox]; rw [if_neg (by omega)]; exact e
  have hwB : (w.setCells B E nvs).heap[B]? = some (.cells (over vs.toList E nvs).toArray ty fz) :=
    heap_setCells_at B ty fz nvs E w vs.toList (by simpa using hh) (by simpa using hE)
  have hwne : ∀ C, C ≠ B → (w.setCells B E nvs).heap[C]? = w.heap[C]? := fun C q => heap_setCells_ne B nvs E w C q
  refine ⟨?_, ?_, hs⟩
  · refine { base := Below.setCells B (h.lt B _ hs).1 nvs E w h.base, lt := fun C n e => by rw [size_setCells]; exact h.lt C n e, imm := fun C p v e => ?_, bxs := fun i C e => ?_, inj := fun i j C hi hj li lj => ?_, ats := fun t k C E' e => ?_, obj := fun i x e => ?_, cur := ?_ }
    · obtain ⟨q, r⟩ := h.imm C p v e
      refine ⟨q, ?_⟩
      have : C ≠ B := by
        rintro rfl
        have e' : G.imm C p = some v := e
        rw [(h.bxs b _ hB).2.2 hlb p] at e'; cases e'
      exact (cell_of_heap (hwne C this) p).trans r
    · rw [hlen]
      simp only [Ghost.rebox] at e
      split at e
      · cases e
        exact ⟨by omega, by simp [Ghost.rebox, hs], fun _ => (h.bxs b B hB).2.2 hlb⟩
      · obtain ⟨q1, q2, q3⟩ := h.bxs i C e
        exact ⟨by omega, q2, fun z => q3 (hlv i q1 z).2⟩
    · simp only [Ghost.rebox] at hi hj
      split at hi <;> split at hj
      · omega
      · cases hi
        have hjl := (h.bxs j B hj).1
        obtain ⟨z1, z2⟩ := hlv j hjl lj
        exact absurd (h.inj j b B hj hB z2 hlb) z1
      · cases hj
        have hil := (h.bxs i B hi).1
        obtain ⟨z1, z2⟩ := hlv i hil li
        exact absurd (h.inj i b B hi hB z2 hlb) z1
      · exact h.inj i j C hi hj (hlv i (h.bxs i C hi).1 li).2 (hlv j (h.bxs j C hj).1 lj).2
    · rw [hlen]
      obtain ⟨q1, q2, q3⟩ := h.ats t k C E' e
      refine ⟨by omega, q2, fun i z => ?_⟩
      simp only [Ghost.rebox] at z
      split at z
      · cases z; exact absurd e (hnat _ _ _)
      · exact hdd i (q3 i z)
    · rcases Nat.lt_or_ge i H.length with hlt | hge
      · rw [List.getElem?_append_left (by simpa using hlt)] at e
        by_cases hi : b = i
        · subst hi
          rw [List.getElem?_set_self hblen] at e
          cases e; exact trivial
        · rw [List.getElem?_set_ne hi] at e
          have ho := h.obj i x e
          have hne : x ≠ AObj.dead → ∀ C, G.bx i = some C → C ≠ B := fun hx C hC q => hi (h.inj b i B hB (q ▸ hC) hlb (by rw [e]; simpa using hx))
          cases x with
          | cells cs2 =>
            obtain ⟨C, vs2, ty2, fz2, p1, p2, p3, p4, p5, p6⟩ := ho
            exact ⟨C, vs2, ty2, fz2, hle'.bx _ _ p1, (hwne C (hne (by simp) C p1)).trans p2, p3, p4, p5, fun j hj => ⟨(p6 j hj).1, (p6 j hj).2.mono hle'⟩⟩
          | row n =>
            obtain ⟨C, E', vs2, ty2, fz2, p1, p2, p3⟩ := ho
            exact ⟨C, E', vs2, ty2, fz2, p1, (hwne C (fun q => hnat _ _ _ (q ▸ p1))).trans p2, p3⟩
          | map es clock =>
            obtain ⟨C, ms, p1, p2, p3, p4⟩ := ho
            refine ⟨C, ms, hle'.bx _ _ p1, (hwne C (hne (by simp) C p1)).trans p2, p3, fun j hj => ?_⟩
            obtain ⟨a, b, c, d, f, g, i⟩ := p4 j hj
            exact ⟨a, b, c, d, f.mono hle', g.mono hle', i⟩
          | iter m since seen stepped =>
            obtain ⟨C, p1, mB, p2, p3⟩ := ho
            refine ⟨C, hle'.bx _ _ p1, mB, (hwne C (hne (by simp) C p1)).trans p2, ?_⟩
            cases m with
            | none => exact p3
            | some j =>
              obtain ⟨D, hD, e⟩ := p3
              exact ⟨D, hle'.bx _ _ hD, e⟩
          | siter s pos =>
            obtain ⟨C, p1, p2⟩ := ho
            exact ⟨C, hle'.bx _ _ p1, (hwne C (hne (by simp) C p1)).trans p2⟩
          | loop busy ss ps asg body pend =>
            obtain ⟨C, r, p1, p2, p3, p4, p5, p6, p7, p8⟩ := ho
            exact ⟨C, r, hle'.bx _ _ p1, (hwne C (hne (by simp) C p1)).trans p2, p3, p4, p5, p6, p7, p8.mono hle'⟩
          | dead => exact trivial
      · rw [List.getElem?_append_right (by simpa using hge)] at e
        have : i = H.length := by
          have := (List.getElem?_eq_some_iff.1 e).1
          simp at this; omega
        subst this
        simp at e
        subst e
        refine ⟨B, (over vs.toList E nvs).toArray, ty, fz, by simp [Ghost.rebox], hwB, ?_, fun o ho => hfz o ?_, ?_, fun j hj => ?_⟩
        · show G.sz B = _
          rw [hs]; simp; rw [over_length (by simpa using hE)]; simp
        · simp at ho; rw [over_length (by simpa using hE)] at ho; simpa using ho
        · simp; rw [over_length (by simpa using hE)]; simpa using hl
        · obtain ⟨q1, q2⟩ := hv j hj
          exact ⟨q1, by simpa using q2.mono hle'⟩
    · have key : ∀ (t k : Nat), (H.set b AObj.dead ++ [AObj.cells cs'])[t]? = some (AObj.row k) → H[t]? = some (AObj.row k) := by
        intro t k e
        rcases Nat.lt_or_ge t H.length with hlt | hge
        · rw [List.getElem?_append_left (by simpa using hlt)] at e
          by_cases q : b = t
          · subst q; rw [List.getElem?_set_self hblen] at e; cases e
          · rwa [List.getElem?_set_ne q] at e
        · rw [List.getElem?_append_right (by simpa using hge)] at e
          have : t - (H.set b AObj.dead).length = 0 := by
            have := (List.getElem?_eq_some_iff.1 e).1
            simp at this; simp; omega
          rw [this] at e; simp at e
      intro t t' k k' C E1 E2 e e' a a'
      exact h.cur t t' k k' C E1 E2 (key t k e) (key t' k' e') a a'
  · have := (Next.refl G w).setCells B vs.size E nvs hs
    exact ⟨hle', this.size, this.keep, this.fresh⟩

/-- An object is let go. -/
theorem HInv.killAny (h : HInv W0 H G w) (t : Nat) {x : AObj} (ht : H[t]? = some x) (hx : x ≠ AObj.dead) : HInv W0 (H.set t AObj.dead) G w := by
  have htl : t < H.length := (List.getElem?_eq_some_iff.1 ht).1
  have key : ∀ (i k : Nat), (H.set t AObj.dead)[i]? = some (AObj.row k) → H[i]? = some (AObj.row k) := by
    intro i k e
    by_cases q : t = i
    · subst q; rw [List.getElem?_set_self htl] at e; cases e
    · rwa [List.getElem?_set_ne q] at e
  refine { base := h.base, lt := h.lt, imm := h.imm, bxs := fun i B e => by rw [List.length_set]; exact ⟨(h.bxs i B e).1, (h.bxs i B e).2.1, fun z => (h.bxs i B e).2.2 (live_set ht hx z)⟩, inj := fun i j B hi hj li lj => h.inj i j B hi hj (live_set ht hx li) (live_set ht hx lj), ats := fun a b c d e => by rw [List.length_set]; exact ⟨(h.ats a b c d e).1, (h.ats a b c d e).2.1, fun i z => dead_set ht hx ((h.ats a b c d e).2.2 i z)⟩, obj := fun i o e => ?_, cur := fun a b c d e f g h1 h2 h3 h4 => h.cur a b c d e f g (key _ _ h1) (key _ _ h2) h3 h4 }
  by_cases q : t = i
  · subst q; rw [List.getElem?_set_self htl] at e; cases e; exact trivial
  · rw [List.getElem?_set_ne q] at e; exact h.obj i o e

/-- A box that is never written again is a row. -/
def Ghost.froze (G : Ghost) (w : World) (B : Nat) : Ghost := { G with imm := fun C o => if C = B then w.cell? ⟨B, o, none⟩ else G.imm C o }
theorem HInv.freeze (h : HInv W0 H G w) (b B : Nat) (cs : List AV) (hb : H[b]? = some (.cells cs)) (hB : G.bx b = some B) :
    G.le (G.froze w B) ∧ HInv W0 (H.set b AObj.dead) (G.froze w B) w := by
  have hlb : H[b]? ≠ some AObj.dead := by rw [hb]; simp
  have hblen : b < H.length := (List.getElem?_eq_some_iff.1 hb).1
  have hnat : ∀ t n E', G.at_ t n ≠ some (B, E') := fun t n E' q => hlb ((h.ats t n B E' q).2.2 b hB)
  have hlv : ∀ i, (H.set b AObj.dead)[i]? ≠ some AObj.dead → i ≠ b ∧ H[i]? ≠ some AObj.dead := fun i z => by
    by_cases e : b = i
    · subst e; rw [List.getElem?_set_self hblen] at z; exact absurd rfl z
    · rw [List.getElem?_set_ne e] at z; exact ⟨fun q => e q.symm, z⟩
  have hle : G.le (G.froze w B) := by
    refine ⟨fun _ _ e => e, fun C o v e => ?_, fun _ _ _ e => e, fun _ _ e => e, fun C o v e => ?_⟩
    rotate_left
    · simp only [Ghost.froze] at e
      split at e
      · rename_i q; subst q; exact .inr (h.bxs b _ hB).2.1
      · exact .inl e
    have : C ≠ B := by rintro rfl; rw [(h.bxs b _ hB).2.2 hlb o] at e; cases e
    simp only [Ghost.froze]; rw [if_neg this]; exact e
  refine ⟨hle, { base := h.base, lt := h.lt, imm := fun C p v e => ?_, bxs := fun i C e => ?_, inj := fun i j C hi hj li lj => h.inj i j C hi hj (hlv i li).2 (hlv j lj).2, ats := fun t k C E' e => ?_, obj := fun i x e => ?_, cur := ?_ }⟩
  · simp only [Ghost.froze] at e
    split at e
    · rename_i q; subst q; exact ⟨.inl (h.bxs b _ hB).2.1, e⟩
    · exact h.imm C p v e
  · rw [List.length_set]
    obtain ⟨q1, q2, q3⟩ := h.bxs i C e
    refine ⟨q1, q2, fun z o => ?_⟩
    obtain ⟨z1, z2⟩ := hlv i z
    have : C ≠ B := by rintro rfl; exact z1 (h.inj i b _ e hB z2 hlb)
    simp only [Ghost.froze]; rw [if_neg this]; exact q3 z2 o
  · rw [List.length_set]
    obtain ⟨q1, q2, q3⟩ := h.ats t k C E' e
    exact ⟨q1, q2, fun i z => dead_set hb (by simp) (q3 i z)⟩
  · by_cases hi : b = i
    · subst hi
      rw [List.getElem?_set_self hblen] at e
      cases e; exact trivial
    · rw [List.getElem?_set_ne hi] at e
      have ho := h.obj i x e
      cases x with
      | cells cs2 =>
        obtain ⟨C, vs2, ty2, fz2, p1, p2, p3, p4, p5, p6⟩ := ho
        exact ⟨C, vs2, ty2, fz2, p1, p2, p3, p4, p5, fun j hj => ⟨(p6 j hj).1, (p6 j hj).2.mono hle⟩⟩
      | row n =>
        obtain ⟨C, E', vs2, ty2, fz2, p1, p2, p3, p4, p5, p6⟩ := ho
        refine ⟨C, E', vs2, ty2, fz2, p1, p2, p3, p4, fun o ho => ?_, p6⟩
        have : C ≠ B := fun q => hnat _ _ _ (q ▸ p1)
        simp only [Ghost.froze]; rw [if_neg this]; exact p5 o ho
      | map es clock =>
        obtain ⟨C, ms, p1, p2, p3, p4⟩ := ho
        refine ⟨C, ms, p1, p2, p3, fun j hj => ?_⟩
        obtain ⟨a, b, c, d, f, g, i⟩ := p4 j hj
        exact ⟨a, b, c, d, f.mono hle, g.mono hle, i⟩
      | iter m since seen stepped => exact ho
      | siter s pos => exact ho
      | loop busy ss ps asg body pend =>
        obtain ⟨C, r, p1, p2, p3, p4, p5, p6, p7, p8⟩ := ho
        exact ⟨C, r, p1, p2, p3, p4, p5, p6, p7, p8.mono hle⟩
      | dead => exact trivial
  · have key : ∀ (t k : Nat), (H.set b AObj.dead)[t]? = some (AObj.row k) → H[t]? = some (AObj.row k) := by
      intro t k e
      by_cases q : b = t
      · subst q; rw [List.getElem?_set_self hblen] at e; cases e
      · rwa [List.getElem?_set_ne q] at e
    intro t t' k k' C E1 E2 e e' a a'
    exact h.cur t t' k k' C E1 E2 (key t k e) (key t' k' e') a a'
end

/-! ### Append to a box's slice -/
def appendArr (esz bytes : Nat) (x : AV) (ys : List AV) (d : Option Nat) (K : AS → AHeap → Prop) (st : AS) (H : AHeap) : Prop :=
  (ys = [] → x.isSlice = true ∧ K (st.set d x) H) ∧ (ys ≠ [] → match x with
    | .pl (.slice none 0 0) => ys.length * bytes ≤ roomMax ∧ K (st.set d (.arr H.length 0 ys.length esz)) (H ++ [.cells (flat ys)])
    | .row own full sz es => sz = esz ∧ full = true ∧ (es.length + ys.length) * bytes ≤ roomMax ∧ K (st.set d (.arr H.length 0 (es.length + ys.length) esz)) (H ++ [.cells (flat es ++ flat ys)])
    | .arr b start len sz => sz = esz ∧ start = 0 ∧ (len + ys.length) * bytes ≤ roomMax ∧ match H[b]? with
      | some (.cells cs) => len * esz ≤ cs.length ∧ K (st.set d (.arr H.length 0 (len + ys.length) esz)) (H.set b AObj.dead ++ [.cells (cs.take (len * esz) ++ flat ys)])
      | _ => False
    | _ => False)

section
variable {W0 : World} {G0 : Ghost} {w0 : World} {N : Nat} {G G' : Ghost} {L : Nat → Option Nat} {st : AS} {H H' : AHeap} {ca : Act} {w w' : World} {P : Program}
variable {o : Oper} {K : AS → AHeap → Prop} {Q : Exit → Act → World → Prop}

theorem append_newA (h : Rel W0 G0 w0 N G L st H ca w) {t tx ty e : TypeId} {i : TypeInfo} {z : Value} (ht : P.underlying t = some (.slice e)) (hi : P.info? e = some i) (hz : i.zero = some z) (hzs : z.cells.size = i.size) (hb : 0 < i.bytes)
    {base : Option Addr} {sLen sCap : Nat} {oc ys : List AV} {olds news : List Value} {x : Value} (hold : (Builtin.firstCells i.size sLen (.slice base sLen sCap)).run P w.drew = .ok olds.toArray w.drew) (ho : VRels G oc olds) (hoc : ∀ c ∈ oc, c.one = true) (hol : oc.length = sLen * i.size)
    (hs : Src P i.size tx x ys.length news w) (hn : VRels G (flat ys) news) (hys : ∀ y ∈ ys, y.isSize i.size = true) (hg : sCap < sLen + ys.length) (hroom : (sLen + ys.length) * i.bytes ≤ roomMax)
    (hop : execOp ca.eval o = (do pure (.value (← Builtin.append_ #[t, tx] ty #[.slice base sLen sCap, x])))) (k : K (st.set o.dst (.arr H.length 0 (sLen + ys.length) i.size)) (H ++ [.cells (oc ++ flat ys)])) :
    o.wp P ca w (Post W0 G0 w0 N K) Q := by
  have hle : sLen + ys.length ≤ roomMax := Nat.le_trans (Nat.le_mul_of_pos_right _ hb) hroom
  unfold roomMax at hle hroom
  have run := run_append_grow_src (P := P) w t tx ty e i z ht hi hz base sLen sCap olds hold x ys.length news hs hg (by omega) (growslice_fits hg hroom)
  have hcap := grownCap_bound w (sLen + ys.length) sCap e (by omega)
  have hrels : VRels G (oc ++ flat ys) (olds ++ news) := VRels.append ho hn
  have hnl : news.length = ys.length * i.size := by rw [hn.1, flat_length hys]
  have hol2 : olds.length = sLen * i.size := by rw [ho.1, hol]
  have hzl : (Builtin.zeroCells z.cells (grownCap w (sLen + ys.length) sCap e - (sLen + ys.length))).size = (grownCap w (sLen + ys.length) sCap e - (sLen + ys.length)) * i.size := by
    rw [size_zeroCells, hzs]
  have hone : ∀ c ∈ oc ++ flat ys, c.one = true := fun c hc => (List.mem_append.1 hc).elim (hoc c) (flat_ones c)
  have hsize : ((olds ++ news).toArray ++ Builtin.zeroCells z.cells (grownCap w (sLen + ys.length) sCap e - (sLen + ys.length))).size = grownCap w (sLen + ys.length) sCap e * i.size := by
    rw [Array.size_append, hzl]
    simp only [List.size_toArray, List.length_append, hnl, hol2]
    rw [← Nat.add_mul, ← Nat.add_mul]
    congr 1; omega
  obtain ⟨G', hnx, hiv, hbx, hsz⟩ := h.inv.drew.newBoxRoom (oc ++ flat ys) ((olds ++ news).toArray ++ Builtin.zeroCells z.cells (grownCap w (sLen + ys.length) sCap e - (sLen + ys.length))) e (0, 0) (fun o _ => by simp)
    (by rw [← hrels.1]; simp) (fun j hj => by
      have hj2 : j < (olds ++ news).length := by rw [hrels.1]; exact hj
      have e5 : ((olds ++ news).toArray ++ Builtin.zeroCells z.cells (grownCap w (sLen + ys.length) sCap e - (sLen + ys.length))).toList.getD j undef = (olds ++ news).getD j undef := by
        rw [Array.toList_append, List.getD_eq_getElem?_getD, List.getElem?_append_left (by simpa using hj2), List.getD_eq_getElem?_getD]
      rw [e5]
      exact hrels.2 j hj) hone
  have hsd : w.drew.heap.size = w.heap.size := rfl
  rw [hsd] at hbx hsz
  have harr : VRel G' (.arr H.length 0 (sLen + ys.length) i.size) (.slice (some ⟨w.heap.size, 0, none⟩) (sLen + ys.length) (grownCap w (sLen + ys.length) sCap e)) := by
    have := VRel.arr (G := G') H.length 0 (sLen + ys.length) i.size w.heap.size (grownCap w (sLen + ys.length) sCap e) _ hbx hcap.1 hcap.2 hsz (by rw [hsize]; simp)
    simpa using this
  refine wp_value0 (by rw [hop]; simp only [Sem.run_bind, run, Result.andThen_ok, Sem.run_pure]; rfl) ?_
  exact ⟨_, _, k, _, _, (h.drew.step hnx hiv).set o.dst (.of harr) (by simp)⟩

set_option maxHeartbeats 1600000 in
theorem appendA_sound (h : Rel W0 G0 w0 N G L st H ca w) {t tx e : TypeId} {i : TypeInfo} {z : Value} (ht : P.underlying t = some (.slice e)) (hi : P.info? e = some i) (hz : i.zero = some z) (hzs : z.cells.size = i.size) (hb : 0 < i.bytes)
    {s x : Operand} {s' x' : Opd} (hs' : cOpd N s = some s') (hx' : cOpd N x = some x') (hop : execOp ca.eval o = (do pure (.value (← Builtin.append_ #[t, tx] o.type #[ca.eval s, ca.eval x]))))
    {ys : List AV} {news : List Value} (hys : ∀ y ∈ ys, y.isSize i.size = true) (hn : VRels G (flat ys) news) (hs : Src P i.size tx (ca.eval x) ys.length news w) (k : appendArr i.size i.bytes (st.ev s') ys o.dst K st H) : o.wp P ca w (Post W0 G0 w0 N K) Q := by
  have h1 := h.opd hs'
  obtain ⟨k0, k1⟩ := k
  by_cases hy0 : ys = []
  · exact append_sound h ht hi hz hzs hb hs' hx' hop hys hn hs ⟨k0, fun q => absurd hy0 q⟩
  have k1 := k1 hy0
  have hpos : 0 < ys.length := List.length_pos_iff.2 hy0
  generalize hvs : ca.eval s = vs at *
  generalize st.ev s' = a at *
  split at k1
  · have e9 := h1.pl
    subst e9
    exact append_newA (oc := []) (base := none) (sLen := 0) (sCap := 0) (olds := []) h ht hi hz hzs hb (by simp [Builtin.firstCells]) (.nil G) (by simp) (by simp) hs hn hys (by omega) (by simpa using k1.1) hop (by simpa using k1.2)
  · rename_i own full sz es _
    obtain ⟨rfl, rfl, hroom, k1⟩ := k1
    have hr := h1.rel (by simp)
    have hsizes := row_sizes hr
    obtain ⟨a, cap, rfl⟩ : ∃ a cap, vs = .slice (some a) es.length cap := by cases hr; exact ⟨_, _, rfl⟩
    obtain ⟨_, hsp, us, hus, him⟩ := row_cells hr
    have hcap : cap = es.length := by
      cases hr with
      | row _ _ _ _ _ _ cv hs he hm hv hc hx hf ho => exact hf rfl
    have hold : (Builtin.firstCells i.size es.length (.slice (some a) es.length cap)).run P w.drew = .ok us.toArray w.drew := by
      refine run_firstCells_some w.drew i.size es.length a es.length cap us (by rw [hus.1, flat_length hsizes]) (fun j u hj => ?_)
      have hlt : j < us.length := (List.getElem?_eq_some_iff.1 hj).1
      rw [hus.1, flat_length hsizes] at hlt
      have hp : 0 < es.length := by
        rcases Nat.eq_zero_or_pos es.length with q | q
        · rw [q] at hlt; simp at hlt
        · exact q
      have e3 : a = ⟨a.block, a.off, none⟩ := by
        have := hsp hp
        cases a; simp_all
      rw [e3, add_plain]
      exact (h.inv.imm _ _ _ (him j u hj)).2
    exact append_newA (oc := flat es) h ht hi hz hzs hb hold hus flat_ones (by rw [flat_length hsizes]) hs hn hys (by omega) hroom hop k1
  · rename_i b start len sz _
    obtain ⟨rfl, rfl, hroom, k1⟩ := k1
    split at k1
    · rename_i cs hbb
      obtain ⟨hlen, k1⟩ := k1
      have hr := h1.rel (by simp)
      cases hr with
      | arr _ _ _ _ B cap sz hB hc hx hsz hzz =>
        obtain ⟨B', vs, ty, fz, hB', hh, hs2, hfz, hle, hcv⟩ := h.inv.obj b _ hbb
        rw [hB] at hB'; cases hB'
        rw [hs2] at hsz; cases hsz
        simp only [Nat.zero_add, Nat.zero_mul] at hzz hop ⊢
        have htl : (cs.take (len * i.size)).length = len * i.size := by simp; omega
        have hocr : VRels G (cs.take (len * i.size)) (vs.toList.take (len * i.size)) := by
          refine ⟨by simp; omega, fun j hj => ?_⟩
          rw [htl] at hj
          rw [getD_take _ _ _ _ hj, getD_take _ _ _ _ hj]
          exact (hcv _ (by omega)).2
        have hoc1 : ∀ c ∈ cs.take (len * i.size), c.one = true := by
          intro c hcm
          obtain ⟨j, hj, rfl⟩ := List.getElem_of_mem hcm
          simp at hj
          have := (hcv j (by omega)).1
          rw [List.getD_eq_getElem?_getD, List.getElem?_eq_getElem (by omega)] at this
          simpa using this
        have hnl : news.length = ys.length * i.size := by rw [hn.1, flat_length hys]
        by_cases hfit : len + ys.length ≤ cap
        · have hmul : (len + ys.length) * i.size ≤ cap * i.size := Nat.mul_le_mul_right _ hfit
          have hmul2 := hmul
          rw [Nat.add_mul] at hmul2
          have run := run_append_room_src (P := P) w t tx o.type e i ht hi B 0 len cap (ca.eval x) ys.length news hs hfit
            (fun j hj => by simp only [World.cell?, hh]; simp; omega) (fun j hj => by
              have := hfz (0 + len * i.size + j) (by omega)
              simp only [World.frozen?, hh]
              simpa using this)
          simp only [Nat.zero_add] at run
          have hov : ∀ j, j < (cs.take (len * i.size) ++ flat ys).length → ((cs.take (len * i.size) ++ flat ys).getD j .any).one = true ∧ VRel G ((cs.take (len * i.size) ++ flat ys).getD j .any) ((over vs.toList (len * i.size) news).getD j undef) := by
            intro j hj
            have hone : ∀ c ∈ cs.take (len * i.size) ++ flat ys, c.one = true := fun c hc => (List.mem_append.1 hc).elim (hoc1 c) (flat_ones c)
            refine ⟨?_, ?_⟩
            · rw [List.getD_eq_getElem?_getD, List.getElem?_eq_getElem hj]
              exact hone _ (List.getElem_mem hj)
            · rw [over_getD (by simp; omega), List.getD_eq_getElem?_getD, List.getElem?_append, htl]
              rw [List.length_append, htl, flat_length hys] at hj
              by_cases q : j < len * i.size
              · rw [if_pos q, if_neg (by omega)]
                have := hocr.2 j (by rw [htl]; exact q)
                rw [getD_take _ _ _ _ q, getD_take _ _ _ _ q] at this
                rw [List.getElem?_take_of_lt q, ← List.getD_eq_getElem?_getD]
                exact this
              · rw [if_neg q, if_pos (by omega), ← List.getD_eq_getElem?_getD]
                exact hn.2 _ (by rw [flat_length hys]; omega)
          obtain ⟨hiv, hnx, _⟩ := h.inv.rebox b B (len * i.size) cs (cs.take (len * i.size) ++ flat ys) news vs ty fz hbb hB hh (by omega) (by rw [List.length_append, htl, flat_length hys]; omega) hov
          have harr : VRel (G.rebox H.length B) (.arr H.length 0 (len + ys.length) i.size) (.slice (some ⟨B, 0, none⟩) (len + ys.length) cap) := by
            have := VRel.arr (G := G.rebox H.length B) H.length 0 (len + ys.length) i.size B cap vs.size (by simp [Ghost.rebox]) hfit hx hs2 (by simpa using hzz)
            simpa using this
          refine wp_value0 (by rw [hop]; simp only [Sem.run_bind, run, Result.andThen_ok, Sem.run_pure]; rfl) ?_
          exact ⟨_, _, k1, _, _, (h.step hnx hiv).set o.dst (.of harr) (by simp)⟩
        · have hk := h.inv.killAny b hbb (by simp)
          have h' : Rel W0 G0 w0 N G L st (H.set b AObj.dead) ca w := h.step (Next.refl G w) hk
          have hold : (Builtin.firstCells i.size len (.slice (some ⟨B, 0, none⟩) len cap)).run P w.drew = .ok (vs.toList.take (len * i.size)).toArray w.drew := by
            refine run_firstCells_some w.drew i.size len ⟨B, 0, none⟩ len cap (vs.toList.take (len * i.size)) (by simp; omega) (fun j u hj => ?_)
            have hlt := (List.getElem?_eq_some_iff.1 hj).1
            simp at hlt
            rw [List.getElem?_take_of_lt (by omega)] at hj
            rw [add_plain]
            show w.cell? _ = _
            simp only [World.cell?, hh]
            simpa using hj
          refine append_newA (H := H.set b AObj.dead) h' ht hi hz hzs hb hold hocr hoc1 htl hs hn hys (by omega) hroom hop ?_
          simpa using k1
    · exact k1.elim
  · exact k1.elim

/-! ### make -/
def made (zero : List AV) (n : Nat) : List AV := (List.range n).map fun j => zero.getD (j % zero.length) .any
def mkslAV (esz bytes : Nat) (zero : List AV) (len cap : AV) (d : Option Nat) (K : AS → AHeap → Prop) (st : AS) (H : AHeap) : Prop :=
  match len, cap with
  | .int _ l, .int _ c => 0 ≤ l ∧ l ≤ c ∧ c.toNat * bytes ≤ roomMax ∧ c.toNat ≤ maxLen ∧ K (st.set d (.arr H.length 0 l.toNat esz)) (H ++ [.cells (made zero (c.toNat * esz))])
  | _, _ => False
theorem mksl_sound (h : Rel W0 G0 w0 N G L st H ca w) {t e : TypeId} {i : TypeInfo} {z : Value} {zc : List AV} (ht : P.underlying t = some (.slice e)) (hi : P.info? e = some i) (hz : i.zero = some z) (hzc : z.cells.toList.mapM AV.ofCell = some zc) (hzs : z.cells.size = i.size)
    {x y : Operand} {x' y' : Opd} (hx : cOpd N x = some x') (hy : cOpd N y = some y') (ho : o.op = .makeSlice t x y) (k : mkslAV i.size i.bytes zc (st.ev x') (st.ev y') o.dst K st H) : o.wp P ca w (Post W0 G0 w0 N K) Q := by
  have h1 := h.opd hx
  have h2 := h.opd hy
  generalize hvx : ca.eval x = vx at *
  generalize hvy : ca.eval y = vy at *
  unfold mkslAV at k
  split at k
  · rename_i kl l kc c e1 e2
    rw [e1] at h1
    rw [e2] at h2
    obtain ⟨k0, k1, k2, k3, k⟩ := k
    have hvx2 := h1.int
    have hvy2 := h2.int
    subst hvx2
    subst hvy2
    obtain ⟨hzr, hz1⟩ := mapM_cells (G := G) hzc
    have hzl : zc.length = i.size := by rw [← hzr.1]; simpa using hzs
    have hroomI : (i.bytes : Int) * c ≤ 140737488355328 := by
      unfold roomMax at k2
      have e9 : (i.bytes : Int) * c = ((c.toNat * i.bytes : Nat) : Int) := by rw [Int.natCast_mul, Int.toNat_of_nonneg (by omega), Int.mul_comm]
      rw [e9]; omega
    have run := run_make (P := P) w t e i z ht hi hz kl kc l c k0 k1 (by omega) (by unfold maxLen at k3; omega)
    have hnz : ∀ j, j < c.toNat * i.size → j % i.size < i.size := fun j hj => Nat.mod_lt _ (by
      rcases Nat.eq_zero_or_pos i.size with q | q
      · rw [q] at hj; simp at hj
      · exact q)
    have hrel : VRels G (made zc (c.toNat * i.size)) (madeCells z.cells (c.toNat * i.size)).toList := by
      refine ⟨by simp [made, madeCells], fun j hj => ?_⟩
      have hj2 : j < c.toNat * i.size := by simpa [made] using hj
      have := hzr.2 (j % i.size) (by rw [hzl]; exact hnz j hj2)
      rw [List.getD_eq_getElem?_getD (l := made zc _), List.getD_eq_getElem?_getD (l := Array.toList _)]
      simp only [made, madeCells, List.getElem?_map, List.getElem?_range hj2, Option.map_some, Option.getD_some, hzl, Array.toList_map, Array.toList_range, hzs]
      have e3 : z.cells[j % i.size]! = z.cells.toList.getD (j % i.size) undef := by
        have hlt : j % i.size < z.cells.size := by rw [hzs]; exact hnz j hj2
        rw [getElem!_pos z.cells _ hlt, List.getD_eq_getElem?_getD]
        simp [hlt]
      rw [e3]
      exact this
    have hone : ∀ c' ∈ made zc (c.toNat * i.size), c'.one = true := by
      intro c' hc'
      simp only [made, List.mem_map, List.mem_range] at hc'
      obtain ⟨j, hj, rfl⟩ := hc'
      have hlt : j % zc.length < zc.length := by rw [hzl]; exact hnz j hj
      rw [List.getD_eq_getElem?_getD, List.getElem?_eq_getElem hlt]
      exact hz1 _ (List.getElem_mem _)
    obtain ⟨G', hn, hiv, hbx, hsz⟩ := h.inv.newBox (made zc (c.toNat * i.size)) (madeCells z.cells (c.toNat * i.size)).toList e hrel hone
    rw [Array.toArray_toList] at hn hiv
    have harr : VRel G' (.arr H.length 0 l.toNat i.size) (.slice (some ⟨w.heap.size, 0, none⟩) l.toNat c.toNat) := by
      have := VRel.arr (G := G') H.length 0 l.toNat i.size w.heap.size c.toNat _ hbx (by omega) k3 hsz (by simp [madeCells])
      simpa using this
    refine wp_value0 (w' := w.alloc (.cells (madeCells z.cells (c.toNat * i.size)) e)) (v := .slice (some ⟨w.heap.size, 0, none⟩) l.toNat c.toNat) (by simp only [execOp, ho, hvx, hvy, Sem.run_bind, run, Result.andThen_ok, Sem.run_pure]) ?_
    exact ⟨_, _, k, _, _, (h.step hn hiv).set o.dst (.of harr) (by simp)⟩
  · exact k.elim

/-! ### Arrays -/
def aaddrAV (len esz : Nat) (x i : AV) : Option AV :=
  match i.asI with
  | some n => if 0 ≤ n ∧ n < len then offAV (n.toNat * esz) x else none
  | none => none
theorem aaddr_sound (h : Rel W0 G0 w0 N G L st H ca w) {t e : TypeId} {n : Nat} {i : TypeInfo} (ht : P.underlying t = some (.array n e)) (hi : P.info? e = some i) {x y : Operand} {x' y' : Opd} (hx : cOpd N x = some x') (hy : cOpd N y = some y')
    {r : AV} (hr : aaddrAV n i.size (st.ev x') (st.ev y') = some r) : Gives P G L st w (Instr.indexAt t (ca.eval x) (ca.eval y)) r := by
  have h1 := h.opd hx
  have h2 := h.opd hy
  have hl : ∀ t o, st.ev x' = .lref t o → st.loc t ≠ none := fun t o e => h.opd_loc hx e
  unfold aaddrAV at hr
  split at hr
  · rename_i m hm
    split at hr
    · rename_i hb
      obtain ⟨k, e2⟩ := asI_of h2 hm
      rw [e2]
      clear e2 h2 hm
      generalize st.ev x' = a at *
      generalize ca.eval x = vx at *
      have run : ∀ B o, (Instr.indexAt t (.pointer (some ⟨B, o, none⟩)) (.int k m)).run P w = .ok (.pointer (some ⟨B, o + m.toNat * i.size, none⟩)) w := fun B o => by
        simp [Instr.indexAt, asIntOf, run_underlying ht, Instr.sureAddr, hb.1, hb.2, sizeOf, typeInfo, hi, add_plain]
      cases a <;> simp [offAV] at hr
      · subst hr
        rename_i b o
        have := h1.rel (by simp)
        cases this with
        | ref _ _ B hB => exact .rel (run B o) (.ref _ _ _ hB)
      · obtain ⟨hle, rfl⟩ := hr
        have := h1.rel (by simp)
        cases this with
        | eref cs B o cv hm hv =>
          refine .rel (run B o) (.eref _ B (o + m.toNat * i.size) (fun j => cv (m.toNat * i.size + j)) (fun j hj => ?_) (fun j hj => ?_))
          · simp at hj
            rw [Nat.add_assoc]; exact hm _ (by omega)
          · simp at hj
            rw [getD_drop]; exact hv _ (by omega)
      · subst hr
        rename_i t o
        rcases h1 with ⟨t', o', B, e, hB, rfl⟩ | h1
        · cases e
          exact ⟨_, run B o, .inl ⟨t, o + m.toNat * i.size, B, rfl, hB, rfl⟩, fun i off e => by cases e; exact hl t o rfl⟩
        · cases h1
    · cases hr
  · cases hr

theorem buildA_sound (h : Rel W0 G0 w0 N G L st H ca w) {t e : TypeId} {n : Nat} {ei i : TypeInfo} {z : Value} {zc : List AV} {idx : List Nat} {xs : List Operand} {ys : List Opd}
    (ht : P.underlying t = some (.array n e)) (hei : P.info? e = some ei) (hi : P.info? t = some i) (hz : i.zero = some z) (hzc : z.cells.toList.mapM AV.ofCell = some zc) (hx : xs.mapM (cOpd N) = some ys) (hlen : idx.length = xs.length)
    {r : AV} (hr : (PExp.build zc (((idx.map fun j => (j * ei.size, ei.size)).zip ys).map fun p => (p.1.1, p.1.2, p.2))).ev st H = some r) : Gives P G L st w (Instr.build t ((idx.zip (xs.map ca.eval)).toArray)) r := by
  simp only [PExp.ev, Option.map_eq_some_iff] at hr
  obtain ⟨cs, hcs, rfl⟩ := hr
  obtain ⟨hyl, hrel⟩ := parts_rel h hx
  have hzr := (mapM_cells (G := G) hzc).1
  have e1 : (((idx.map fun j => (j * ei.size, ei.size)).zip ys).map fun p => (p.1.1, p.1.2, p.2)).map (fun p => (p.1, p.2.1, st.ev p.2.2)) = (((idx.map fun j => (j, j * ei.size, ei.size)).zip (ys.map st.ev)).map fun p => (p.1.2.1, p.1.2.2, p.2)) := by
    apply List.ext_getElem?
    intro k
    by_cases hk : k < ys.length
    · have a2 : k < idx.length := by omega
      simp [List.zip, List.getElem?_zipWith, List.getElem?_eq_getElem hk, List.getElem?_eq_getElem a2]
    · simp [List.zip, List.getElem?_zipWith, List.getElem?_eq_none (Nat.le_of_not_lt hk)]
  rw [e1] at hcs
  obtain ⟨us, hus, hur⟩ := fillAV_sound (G := G) (fun j => some (j * ei.size, ei.size)) (idx.map fun j => (j, j * ei.size, ei.size)) (ys.map st.ev) (xs.map ca.eval) (fun p hp => by
      simp only [List.mem_map] at hp
      obtain ⟨j, _, rfl⟩ := hp
      rfl) (by simp; omega) hzr (fun i x hx' => hrel i x hx') (by simp; omega) hcs
  refine .rel (v := .agg us.toArray) ?_ (.agg _ _ hur.1 hur.2)
  have e2 : ((idx.map fun j => (j, j * ei.size, ei.size)).zip (xs.map ca.eval)).map (fun p => (p.1.1, p.2)) = idx.zip (xs.map ca.eval) := by
    apply List.ext_getElem?
    intro k
    by_cases hk : k < idx.length
    · have a2 : k < xs.length := by omega
      simp [List.zip, List.getElem?_zipWith, List.getElem?_eq_getElem hk, List.getElem?_eq_getElem a2]
    · simp [List.zip, List.getElem?_zipWith, List.getElem?_eq_none (Nat.le_of_not_lt hk)]
  rw [e2] at hus
  have hsz : (sizeOf e).run P w = .ok ei.size w := by simp [sizeOf, typeInfo, hei]
  have ez : z.cells = z.cells.toList.toArray := by simp
  rw [ez] at *
  simp only [Instr.build, zeroValue, typeInfo, Sem.run_bind, run_program, Result.andThen_ok, hi, hz, Sem.run_pure, run_underlying ht, hsz]
  simp at hus ⊢
  rw [hus]
  rfl

/-- A field of a struct by value. -/
def fldAV (o : Nat) (n : Option Nat) (x : AV) : Option AV :=
  match x with
  | .agg cs => match n with
    | none => cs[o]?
    | some n => if o + n ≤ cs.length then some (.agg ((cs.drop o).take n)) else none
  | _ => none
theorem fld_sound (h : Rel W0 G0 w0 N G L st H ca w) {s : TypeId} {fields : Array Field} {k : Nat} {f : Field} {d : TypeDesc} {i : TypeInfo} (hs : P.underlying s = some (.struct fields)) (hf : fields[k]? = some f) (hd : P.underlying f.type = some d)
    (hi : P.info? f.type = some i) {x : Operand} {x' : Opd} (hx : cOpd N x = some x') {r : AV} (hr : fldAV f.offset (if d.isRow then some i.size else none) (st.ev x') = some r) : Gives P G L st w (Instr.field s (ca.eval x) k) r := by
  have h1 := h.opd hx
  generalize st.ev x' = a at *
  generalize ca.eval x = vx at *
  cases a <;> simp only [fldAV] at hr <;> try (cases hr; done)
  rename_i cs
  have h2 := h1.rel (by simp)
  cases h2 with
  | agg _ vs hl hv =>
    have hagg : (isAgg f.type).run P w = .ok d.isRow w := by
      unfold isAgg
      rw [Sem.run_bind, run_underlying hd w]
      cases d <;> rfl
    have hsz : (sizeOf f.type).run P w = .ok i.size w := by simp [sizeOf, typeInfo, hi]
    cases hrow : d.isRow with
    | false =>
      rw [hrow] at hr
      simp only [Bool.false_eq_true, if_false] at hr
      have ho : f.offset < cs.length := (List.getElem?_eq_some_iff.1 hr).1
      refine .rel (v := vs.getD f.offset undef) ?_ ?_
      · have : f.offset < vs.length := by omega
        simp [Instr.field, run_underlying hs, hf, asAgg, part, hagg, hrow, this]
      · have := hv f.offset ho
        rw [List.getD_eq_getElem?_getD, hr] at this
        exact this
    | true =>
      rw [hrow] at hr
      simp only [if_true] at hr
      split at hr
      · rename_i hn
        cases hr
        refine .rel (v := .agg ((vs.drop f.offset).take i.size).toArray) ?_ (.agg _ _ (by simp; omega) (fun j hj => ?_))
        · simp [Instr.field, run_underlying hs, hf, asAgg, part, hagg, hrow, hsz]
        · simp at hj
          rw [getD_take _ _ _ _ (by omega), getD_take _ _ _ _ (by omega), getD_drop, getD_drop]
          exact hv _ (by omega)
      · cases hr
end
end Go.Qa
/- The abstract machine, part 8: its operations and its code; what they ask for; that the model's code does so. -/
namespace Go.Qa
open Go Go.RowKit

/-- The model enters a function. -/
def Enters (P : Program) (f : FuncId) : Prop := ∀ (vs : Array Value) (w : World), (callFunc f vs).run P w = .ok (.enter f vs) w
theorem Enters.of {P : Program} {f : FuncId} {fn : Func} (hf : P.funcs[f]? = some fn) (hn : (fn.name == "runtime.NumGoroutine") = false) (hb : fn.body.isNone = false) : Enters P f := by
  intro vs w
  simp only [callFunc, Sem.run_bind, run_program, Result.andThen_ok, hf, hn, hb]
  rfl

/-- A call of a function with abstract arguments returns, and what it gives meets Q. -/
def ACalls (P : Program) (W0 : World) (f : FuncId) (args : List AV) (H : AHeap) (Q : AV → AHeap → Prop) : Prop :=
  Enters P f ∧ ∀ G w vs, HInv W0 H G w → VRels G args vs →
    Calls P f vs.toArray w fun e w' => ∃ v r H' G', e = .returned v ∧ Q r H' ∧ Next G w G' w' ∧ HInv W0 H' G' w' ∧ VRel G' r v
theorem ACalls.mono {P : Program} {W0 : World} {f : FuncId} {args : List AV} {H : AHeap} {Q Q' : AV → AHeap → Prop} (h : ACalls P W0 f args H Q) (hq : ∀ r H', Q r H' → Q' r H') : ACalls P W0 f args H Q' :=
  ⟨h.1, fun G w vs hi hv => (h.2 G w vs hi hv).mono fun e w' ⟨v, r, H', G', e1, q, e2⟩ => ⟨v, r, H', G', e1, hq _ _ q, e2⟩⟩

/-- No fence but for the round. -/
def RF (ro : Option Nat) : Fence := { Fence.wide with round := ro }
/-- A call of a round of a loop over a function. -/
def AYields (P : Program) (W0 : World) (b : Nat) (args : List AV) (H : AHeap) (Q : AV → AHeap → Prop) : Prop :=
  ∀ G w l vs n, HInv W0 H G w → G.bx b = some l → VRels G args vs →
    YieldAt (RF none) n P l vs.toArray w fun e w' => ∃ v r H' G', e = .returned v ∧ Q r H' ∧ Next G w G' w' ∧ HInv W0 H' G' w' ∧ VRel G' r v
theorem AYields.mono {P : Program} {W0 : World} {b : Nat} {args : List AV} {H : AHeap} {Q Q' : AV → AHeap → Prop} (h : AYields P W0 b args H Q) (hq : ∀ r H', Q r H' → Q' r H') : AYields P W0 b args H Q' :=
  fun G w l vs n hi hb hv => by
    obtain ⟨fn, tmps, asg, body, h1, h2⟩ := h G w l vs n hi hb hv
    exact ⟨fn, tmps, asg, body, h1, h2.mono fun e w' ⟨v, r, H', G', e1, q, e2⟩ => ⟨v, r, H', G', e1, hq _ _ q, e2⟩⟩

/-- The slice of a whole array. -/
def sarrAV (n esz : Nat) (H : AHeap) (x : AV) : Option AV :=
  match x with
  | .ref b 0 => match H[b]? with
    | some (.cells cs) => if n ≤ maxLen ∧ n * esz ≤ cs.length then some (.arr b 0 n esz) else none
    | _ => none
  | _ => none
inductive XExp where
  | eqs (k : EK) (neg : Bool) (x y : Opd)
  | lookup (k : KK) (zero : AV) (x i : Opd) (ok : Bool)
  | aaddr (len esz : Nat) (x i : Opd)
  | sarr (n esz : Nat) (x : Opd)
  | fld (o : Nat) (n : Option Nat) (x : Opd)
  | lenM (x : Opd)
  | entry (x : Opd)
  | b2s (x : Opd)
  | ssame (x : Opd)
  | mkif (t : TypeId) (x : Opd)
  | imin (x y : Opd)
  | imax (x y : Opd)
  deriving Inhabited
def XExp.ev (e : XExp) (st : AS) (H : AHeap) : Option AV :=
  match e with
  | .eqs k neg x y => (k.eq (st.ev x) (st.ev y)).map fun b => .bool (if neg then !b else b)
  | .lookup k zero x i ok => match mapOf H (st.ev x) with
    | some es => if keyOk k (st.ev i) then lookupAV k zero es (st.ev i) ok else none
    | none => none
  | .aaddr len esz x i => aaddrAV len esz (st.ev x) (st.ev i)
  | .sarr n esz x => sarrAV n esz H (st.ev x)
  | .fld o n x => fldAV o n (st.ev x)
  | .lenM x => (mapOf H (st.ev x)).map fun es => .int .i64 es.length
  | .entry x => entryAV H (st.ev x)
  | .b2s x => b2sAV H (st.ev x)
  | .ssame x => match st.ev x with
    | .str s => some (.str s)
    | _ => none
  | .mkif t x => if (st.ev x).glob then some (.iface t (st.ev x)) else none
  | .imin x y => match st.ev x, st.ev y with
    | .int k a, .int k' b => if k = k' then some (.int k (if b < a then b else a)) else none
    | _, _ => none
  | .imax x y => match st.ev x, st.ev y with
    | .int k a, .int k' b => if k = k' then some (.int k (if a < b then b else a)) else none
    | _, _ => none
inductive EOp where
  | alloc (heap : Bool) (zero : List AV)
  | box (heap : Bool) (x : Opd)
  | store (n : Nat) (x v : Opd)
  | call (f : Opd) (args : List Opd)
  | bslice (esz : Nat) (xs : List Opd)
  | append (esz bytes : Nat) (str : Bool) (x y : Opd)
  | appendA (esz bytes : Nat) (str : Bool) (x y : Opd)
  | mksl (esz bytes : Nat) (zero : List AV) (len cap : Opd)
  | mkmap
  | copy (esz : Nat) (x y : Opd)
  | clr (za : AV) (x : Opd)
  | mupd (k : KK) (m key val : Opd)
  | range (x : Opd)
  | next (x : Opd)
  | s2b (arr : Bool) (x : Opd)
  | no
  deriving Inhabited
inductive AOp where
  | pu (e : PExp)
  | px (e : XExp)
  | ef (x : EOp)
  deriving Inhabited
structure AOper where
  dst : Option Nat
  guard : Option (Nat × Bool)
  op : AOp
  deriving Inhabited

/-- A new variable, on the heap or of the function's own. -/
def newVarAt (heap : Bool) (cs : List AV) (d : Option Nat) (K : AS → AHeap → Prop) (st : AS) (H : AHeap) : Prop :=
  if heap then K (st.set d (.ref H.length 0)) (H ++ [.cells cs])
  else match d with
    | some t => K (st.newLoc t cs) H
    | none => False
def storeAV (n : Nat) (x : AV) (ns : List AV) (d : Option Nat) (K : AS → AHeap → Prop) (st : AS) (H : AHeap) : Prop :=
  ns.length = n ∧ match x with
    | .ref b o => match H[b]? with
      | some (.cells cs) => o + n ≤ cs.length ∧ K (st.set d (.pl undef)) (H.set b (.cells (over cs o ns)))
      | _ => False
    | .lref t o => match st.loc t with
      | some cs => o + n ≤ cs.length ∧ K ((st.setLoc t (over cs o ns)).set d (.pl undef)) H
      | none => False
    | _ => False
/-- The elements are zeroed, each one cell. -/
def clrAV (za : AV) (x : AV) (d : Option Nat) (K : AS → AHeap → Prop) (st : AS) (H : AHeap) : Prop :=
  match x with
  | .arr b start len sz => sz = 1 ∧ 0 < len ∧ match H[b]? with
    | some (.cells cs) => start + len ≤ cs.length ∧ K (st.set d (.pl undef)) (H.set b (.cells (over cs start (List.replicate len za))))
    | _ => False
  | .row _ _ _ [] => K (st.set d (.pl undef)) H
  | _ => False
/-- What is copied goes into a box; the source is no longer than the target. -/
def copyAV (esz : Nat) (x : AV) (ys : List AV) (d : Option Nat) (K : AS → AHeap → Prop) (st : AS) (H : AHeap) : Prop :=
  match x with
  | .arr b start len sz => sz = esz ∧ ys.length ≤ len ∧ match H[b]? with
    | some (.cells cs) => start * esz + (flat ys).length ≤ cs.length ∧ K (st.set d (.int .i64 ys.length)) (H.set b (.cells (over cs (start * esz) (flat ys))))
    | _ => False
  | .pl (.slice none 0 0) => ys = [] ∧ K (st.set d (.int .i64 0)) H
  | _ => False
def callAV (P : Program) (W0 : World) (f : AV) (args : List AV) (d : Option Nat) (K : AS → AHeap → Prop) (st : AS) (H : AHeap) : Prop :=
  match f with
  | .fn (.func g) first captured => (first ++ args ++ captured).all AV.glob = true ∧ ACalls P W0 g (first ++ args ++ captured) H fun r H' => K (st.set d r) H'
  | .yfn b => args.all AV.glob = true ∧ AYields P W0 b args H fun r H' => K (st.set d r) H'
  | _ => False
def AV.isStr : AV → Bool
  | .str _ => true
  | _ => false
def EOp.wp (P : Program) (W0 : World) (op : EOp) (d : Option Nat) (K : AS → AHeap → Prop) (st : AS) (H : AHeap) : Prop :=
  match op with
  | .alloc heap zero => newVarAt heap zero d K st H
  | .box heap x => match (st.ev x).cells? with
    | some cs => newVarAt heap cs d K st H
    | none => False
  | .store n x v => match (st.ev v).cells? with
    | some ns => storeAV n (st.ev x) ns d K st H
    | none => False
  | .call f args => callAV P W0 (st.ev f) (args.map st.ev) d K st H
  | .bslice esz xs => (xs.map st.ev).all (AV.isSize esz) = true ∧ K (st.set d (.row none true esz (xs.map st.ev))) H
  | .append esz bytes str x y => (st.ev y).isStr = str ∧ match st.src H esz (st.ev y) with
    | some ys => appendAV esz bytes (st.ev x) ys d K st H
    | none => False
  | .appendA esz bytes str x y => (st.ev y).isStr = str ∧ match st.src H esz (st.ev y) with
    | some ys => appendArr esz bytes (st.ev x) ys d K st H
    | none => False
  | .mksl esz bytes zero len cap => mkslAV esz bytes zero (st.ev len) (st.ev cap) d K st H
  | .mkmap => K (st.set d (.map H.length)) (H ++ [.map [] 0])
  | .copy esz x y => (st.ev y).isStr = false ∧ match st.src H esz (st.ev y) with
    | some ys => copyAV esz (st.ev x) ys d K st H
    | none => False
  | .clr za x => clrAV za (st.ev x) d K st H
  | .mupd k m key val => match st.ev m with
    | .map i => mupdAV k i (st.ev key) (st.ev val) d K st H
    | _ => False
  | .range x => rangeAV (st.ev x) d K st H
  | .next x => nextAV (st.ev x) d K st H
  | .s2b arr x => s2bAV arr (st.ev x) d K st H
  | .no => False
def AOp.wp (P : Program) (W0 : World) (op : AOp) (d : Option Nat) (K : AS → AHeap → Prop) (st : AS) (H : AHeap) : Prop :=
  match op with
  | .pu x => match x.ev st H with
    | some r => K (st.set d r) H
    | none => False
  | .px x => match x.ev st H with
    | some r => K (st.set d r) H
    | none => False
  | .ef x => x.wp P W0 d K st H
def AOper.wp (P : Program) (W0 : World) (o : AOper) (K : AS → AHeap → Prop) (st : AS) (H : AHeap) : Prop :=
  match o.guard with
  | none => o.op.wp P W0 o.dst K st H
  | some (t, want) => match st.s t with
    | .bool b => if b = want then o.op.wp P W0 o.dst K st H else K (st.set o.dst (.pl undef)) H
    | .pl (.tuple _) => K (st.set o.dst (.pl undef)) H
    | _ => False
def awpOps (P : Program) (W0 : World) : List AOper → (AS → AHeap → Prop) → AS → AHeap → Prop
  | [], K, st, H => K st H
  | o :: r, K, st, H => o.wp P W0 (awpOps P W0 r K) st H

section
variable {W0 : World} {G0 : Ghost} {w0 : World} {N : Nat} {G G' : Ghost} {L : Nat → Option Nat} {st : AS} {H H' : AHeap} {ca : Act} {w w' : World} {P : Program}
theorem Post.of {K : AS → AHeap → Prop} (h : Rel W0 G0 w0 N G L st H ca w) (k : K st H) : Post W0 G0 w0 N K ca w := ⟨st, H, k, G, L, h⟩

variable {o : Oper} {K : AS → AHeap → Prop} {Q : Exit → Act → World → Prop}
theorem wp_value {v : Value} (hr : (execOp ca.eval o).run P w = .ok (.value v) w') (k : Post W0 G0 w0 N K (ca.put o.dst v) w') : o.wp P ca w (Post W0 G0 w0 N K) Q := by
  unfold Oper.wp; rw [hr]; exact k
theorem wp_skip' (hr : (execOp ca.eval o).run P w = .ok .skip w') (k : Post W0 G0 w0 N K (ca.put o.dst undef) w') : o.wp P ca w (Post W0 G0 w0 N K) Q := by
  unfold Oper.wp; rw [hr]; exact k
theorem wp_gives (h : Rel W0 G0 w0 N G L st H ca w) {s : Sem Value} {r : AV} (hg : Gives P G L st w s r) (he : execOp ca.eval o = (do pure (.value (← s)))) (k : K (st.set o.dst r) H) : o.wp P ca w (Post W0 G0 w0 N K) Q := by
  obtain ⟨v, hv, hr, hl⟩ := hg
  exact wp_value (by rw [he]; simp [hv]) (.of (h.set o.dst hr hl) k)

/-- A new variable. -/
theorem newVar_sound (h : Rel W0 G0 w0 N G L st H ca w) {heap : Bool} {cs : List AV} {vs : List Value} {ty : TypeId} (hv : VRels G cs vs) (h1 : ∀ c ∈ cs, c.one = true) (hd : ∀ t, o.dst = some t → t < N)
    (hr : (execOp ca.eval o).run P w = .ok (.value (.pointer (some ⟨w.heap.size, 0, none⟩))) (w.alloc (.cells vs.toArray ty))) (k : newVarAt heap cs o.dst K st H) : o.wp P ca w (Post W0 G0 w0 N K) Q := by
  refine wp_value hr ?_
  cases heap with
  | true =>
    simp only [newVarAt, if_true] at k
    obtain ⟨G', hn, hi, hb, _⟩ := h.inv.newBox cs vs ty hv h1
    exact .of ((h.step hn hi).set o.dst (.of (.ref _ _ _ hb)) (by simp)) k
  | false =>
    simp only [newVarAt, Bool.false_eq_true, if_false] at k
    cases ho : o.dst with
    | none => rw [ho] at k; exact k.elim
    | some t =>
      rw [ho] at k
      exact .of (h.newLoc t (hd t ho) cs vs ty hv h1) k

theorem run_storeAt' (w : World) (B o : Nat) (t : TypeId) (v : Value) (i : TypeInfo) (hi : P.info? t = some i) (hs : v.cells.toList.length = i.size) (ht : w.there B o v.cells.toList.length) (h1 : ∀ c ∈ v.cells.toList, c.oneCell' = true) :
    (Instr.storeAt t (.pointer (some ⟨B, o, none⟩)) v).run P w = .ok () (w.setCells B o v.cells.toList) := by
  have key := run_storeCells_cells (P := P) B o v.cells.toList 0 w (fun j hj => by simpa using (ht j hj).1) (fun j hj => by simpa using (ht j hj).2) h1
  have hs' : v.cells.size = i.size := by simpa using hs
  simp only [Nat.add_zero] at key
  simp [Instr.storeAt, Instr.sureAddr, storeVar, sizeOf, typeInfo, hi, hs', key]

theorem VRels.ones {cs : List AV} {vs : List Value} (h : VRels G cs vs) (h1 : ∀ c ∈ cs, c.one = true) : ∀ v ∈ vs, v.oneCell' = true := by
  intro v hv
  obtain ⟨j, hj, rfl⟩ := List.getElem_of_mem hv
  have hjc : j < cs.length := by rw [← h.1]; exact hj
  have := h.2 j hjc
  rw [List.getD_eq_getElem?_getD, List.getElem?_eq_getElem hjc, List.getD_eq_getElem?_getD, List.getElem?_eq_getElem hj] at this
  exact VRel.one this (h1 _ (List.getElem_mem _))

theorem store_sound (h : Rel W0 G0 w0 N G L st H ca w) {t : TypeId} {i : TypeInfo} (hi : P.info? t = some i) {x v : Operand} {x' v' : Opd} (hx : cOpd N x = some x') (hv : cOpd N v = some v')
    (ho : o.op = .store t x v) {ns : List AV} (hc : (st.ev v').cells? = some ns) (k : storeAV i.size (st.ev x') ns o.dst K st H) : o.wp P ca w (Post W0 G0 w0 N K) Q := by
  have h1 := h.opd hx
  have h2 := h.opd hv
  have h2' : VRel G (st.ev v') (ca.eval v) := h2.rel (fun t off e => by rw [e] at hc; simp [AV.cells?, AV.one] at hc)
  obtain ⟨hcr, hones⟩ := h2'.cells hc
  have hvl : (ca.eval v).cells.toList.length = ns.length := hcr.1
  obtain ⟨hn, k⟩ := k
  have ex : execOp ca.eval o = (do Instr.storeAt t (ca.eval x) (ca.eval v); pure .skip) := by simp only [execOp, ho]
  generalize hax : st.ev x' = a at *
  cases a <;> simp only at k <;> try exact k.elim
  · rename_i b off
    split at k
    · rename_i cs hb
      obtain ⟨hle, k⟩ := k
      have := h1.rel (by simp)
      generalize hvx : ca.eval x = vx at *
      cases this with
      | ref _ _ B hB =>
        obtain ⟨B', vs, ty, fz, hB', hh, hs, hfz, hl, hcv⟩ := h.inv.obj b _ hb
        rw [hB] at hB'; cases hB'
        have there : w.there B off (ca.eval v).cells.toList.length := fun j hj => by
          have : off + j < vs.size := by omega
          have hz := hfz _ this
          simp only [World.cell?, World.frozen?, hh]
          simp [this]
          simpa using hz
        have run := run_storeAt' (P := P) w B off t (ca.eval v) i hi (by omega) there (hcr.ones hones)
        refine wp_skip' (w' := w.setCells B off (ca.eval v).cells.toList) (by rw [ex]; simp [run]) ?_
        have hi' := h.inv.store b B off cs ns _ hb hB (by omega) hcr hones
        have hn' : Next G w G (w.setCells B off (ca.eval v).cells.toList) := (Next.refl G w).setCells B vs.size off _ hs
        exact .of ((h.step hn' hi').set o.dst (.of (.pl _)) (by simp)) k
    · exact k.elim
  · rename_i l off
    split at k
    · rename_i cs hb
      obtain ⟨hle, k⟩ := k
      rcases h1 with ⟨l', off', B, e, hB, hvx⟩ | h1
      · cases e
        obtain ⟨B', vs, ty, p1, p2, p3, hh, hr, p6⟩ := h.locs l cs hb
        rw [hB] at p1; cases p1
        have there : w.there B off (ca.eval v).cells.toList.length := fun j hj => by
          have : off + j < vs.length := by rw [hr.1]; omega
          simp only [World.cell?, World.frozen?, hh]
          simp [this]
        have run := run_storeAt' (P := P) w B off t (ca.eval v) i hi (by omega) there (hcr.ones hones)
        refine wp_skip' (w' := w.setCells B off (ca.eval v).cells.toList) (by rw [ex, hvx]; simp [run]) ?_
        exact .of ((h.setLoc l off B cs ns _ hb hB (by omega) hcr hones).set o.dst (.of (.pl _)) (by simp)) k
      · cases h1
    · exact k.elim

theorem AV.cells_one {x : AV} {cs : List AV} (h : x.cells? = some cs) : ∀ c ∈ cs, c.one = true := by
  have single : (if x.one then some [x] else none) = some cs → ∀ c ∈ cs, c.one = true := by
    intro e
    split at e
    · rename_i q
      cases e
      simpa using q
    · cases e
  cases x with
  | agg es =>
    simp only [AV.cells?] at h
    split at h
    · rename_i q
      cases h
      simpa using q
    · cases h
  | _ => exact single h
theorem sarr_sound (h : Rel W0 G0 w0 N G L st H ca w) {t e : TypeId} {n : Nat} {i : TypeInfo} (ht : P.underlying t = some (.array n e)) (hi : P.info? e = some i) {x : Operand} {x' : Opd} (hx : cOpd N x = some x')
    {r : AV} (hr : sarrAV n i.size H (st.ev x') = some r) : Gives P G L st w (Instr.sliceAt t (ca.eval x) none none none) r := by
  have h1 := h.opd hx
  unfold sarrAV at hr
  split at hr
  · rename_i b e1
    split at hr
    · rename_i cs hb
      split at hr
      · rename_i hc
        cases hr
        rw [e1] at h1
        have h2 := h1.rel (by simp)
        generalize ca.eval x = vx at *
        cases h2 with
        | ref _ _ B hB =>
          obtain ⟨B', vs, ty, fz, hB', hh, hsv, hfz, hlv, hcv⟩ := h.inv.obj b _ hb
          rw [hB] at hB'; cases hB'
          refine .rel (v := .slice (some ⟨B, 0, none⟩) n n) ?_ ?_
          · by_cases hn : n = 0 <;> simp [Instr.sliceAt, run_underlying ht, Instr.sureAddr, Instr.sliceBounds, sizeOf, typeInfo, hi, add_plain, hn]
          · have := VRel.arr (G := G) b 0 n i.size B n vs.size hB (Nat.le_refl _) hc.1 hsv (by simp; omega)
            simpa using this
      · cases hr
    · cases hr
  · cases hr
theorem copy_sound (h : Rel W0 G0 w0 N G L st H ca w) {t tx e : TypeId} {i : TypeInfo} (ht : P.underlying t = some (.slice e)) (hi : P.info? e = some i) {x y : Operand} {x' : Opd} (hx : cOpd N x = some x')
    (hop : execOp ca.eval o = (do pure (.value (← Builtin.copy_ #[t, tx] o.type #[ca.eval x, ca.eval y])))) {ys : List AV} {news : List Value} (hys : ∀ y ∈ ys, y.isSize i.size = true) (hn : VRels G (flat ys) news) (hs : Src P i.size tx (ca.eval y) ys.length news w)
    (k : copyAV i.size (st.ev x') ys o.dst K st H) : o.wp P ca w (Post W0 G0 w0 N K) Q := by
  have h1 := h.opd hx
  generalize hax : st.ev x' = a at *
  cases a <;> simp only [copyAV] at k <;> try exact k.elim
  · rename_i v
    split at k
    · rename_i q; cases q
    rotate_left
    · exact k.elim
    rename_i q
    cases q
    obtain ⟨rfl, k⟩ := k
    have h2 := h1.rel (by simp)
    generalize hvx : ca.eval x = vx at *
    cases h2
    have hc : (Builtin.firstCells i.size 0 (ca.eval y)).run P w = .ok news.toArray w := hs.cells
    have hl : (Builtin.lenOf (ca.eval y)).run P w = .ok 0 w := hs.len w
    refine wp_value (v := .int .i64 0) (w' := w) (by rw [hop]; simp [Builtin.copy_, run_underlying ht, hl, sizeOf, typeInfo, hi, hc, goInt]) ?_
    exact .of (h.set o.dst (.of (.int _ _)) (by simp)) k
  · rename_i b start len sz
    obtain ⟨rfl, hle, k⟩ := k
    split at k <;> try exact k.elim
    rename_i cs hb
    obtain ⟨hcs, k⟩ := k
    have h2 := h1.rel (by simp)
    generalize hvx : ca.eval x = vx at *
    cases h2 with
    | arr _ _ _ _ B cap szb hB hcap hmax hsz hroom =>
      obtain ⟨B', vs, ty, fz, hB', hh, hsv, hfz, hlv, hcv⟩ := h.inv.obj b _ hb
      rw [hB] at hB'; cases hB'
      have hnl : news.length = (flat ys).length := hn.1
      have hones : ∀ c ∈ flat ys, c.one = true := fun c hc => by
        obtain ⟨y0, hy0, hc0⟩ := List.mem_flatMap.1 hc
        have := hys y0 hy0
        simp only [AV.isSize] at this
        split at this
        · rename_i cs0 hcs0
          simp only [AV.cells, hcs0, Option.getD_some] at hc0
          exact AV.cells_one hcs0 c hc0
        · cases this
      have key := run_storeCells_cells (P := P) B (start * i.size) news 0 w (fun j hj => by
          have : start * i.size + j < vs.size := by omega
          simp only [World.cell?, hh]
          simp [this]) (fun j hj => by
          have hz := hfz (start * i.size + j) (by omega)
          simp only [World.frozen?, hh]
          simpa using hz) hs.one
      simp only [Nat.add_zero] at key
      have hc := hs.cells
      have hl := hs.len w
      have hmin : Nat.min ys.length len = ys.length := Nat.min_eq_left hle
      refine wp_value (v := .int .i64 ys.length) (w' := w.setCells B (start * i.size) news) (by
        rw [hop]
        simp [Builtin.copy_, run_underlying ht, hl, sizeOf, typeInfo, hi, hmin, hc, goInt, key]) ?_
      have hi' := h.inv.store b B (start * i.size) cs (flat ys) _ hb hB hcs hn hones
      have hn' : Next G w G (w.setCells B (start * i.size) news) := (Next.refl G w).setCells B vs.size (start * i.size) _ hsv
      exact .of ((h.step hn' hi').set o.dst (.of (.int _ _)) (by simp)) k

theorem clr_sound (h : Rel W0 G0 w0 N G L st H ca w) {t e : TypeId} {i : TypeInfo} {z : Value} {za : AV} (ht : P.underlying t = some (.slice e)) (hi : P.info? e = some i) (hz : i.zero = some z) (hzc : z.cells = #[z]) (hza : AV.ofCell z = some za) {x : Operand} {x' : Opd} (hx : cOpd N x = some x')
    (hop : execOp ca.eval o = (do pure (.value (← Builtin.clear_ #[t] o.type #[ca.eval x])))) (k : clrAV za (st.ev x') o.dst K st H) : o.wp P ca w (Post W0 G0 w0 N K) Q := by
  have h1 := h.opd hx
  obtain ⟨hzr, hzo, hzv⟩ := AV.ofCell_rel (G := G) hza
  generalize hax : st.ev x' = a at *
  cases a <;> simp only [clrAV] at k <;> try exact k.elim
  · rename_i own full esz es
    split at k
    · rename_i q; cases q
    rotate_left
    · exact k.elim
    rename_i q
    cases q
    have h2 := h1.rel (by simp)
    generalize hvx : ca.eval x = vx at *
    cases h2
    refine wp_value (v := undef) (w' := w) (by rw [hop]; simp [Builtin.clear_, run_underlying ht, undef]) ?_
    exact .of (h.set o.dst (.of (.pl _)) (by simp)) k
  · rename_i b start len sz
    obtain ⟨rfl, hlen, k⟩ := k
    split at k <;> try exact k.elim
    rename_i cs hb
    obtain ⟨hcs, k⟩ := k
    have h2 := h1.rel (by simp)
    generalize hvx : ca.eval x = vx at *
    cases h2 with
    | arr _ _ _ _ B cap szb hB hcap hmax hsz hroom =>
      obtain ⟨B', vs, ty, fz, hB', hh, hsv, hfz, hlv, hcv⟩ := h.inv.obj b _ hb
      rw [hB] at hB'; cases hB'
      have run := Lib.run_clear_slice w t e o.type z ht (fun w => by simp [zeroValue, typeInfo, hi, hz]) hzc hzv B (start * 1) len cap hlen (fun j hj => by
          have : start + j < vs.size := by omega
          simp only [World.cell?, hh, Nat.mul_one]
          simp [this]) (fun j hj => by
          have hz := hfz (start + j) (by omega)
          simp only [World.frozen?, hh, Nat.mul_one]
          simpa using hz)
      refine wp_value (v := undef) (w' := w.setCells B (start * 1) (List.replicate len z)) (by
        rw [hop]
        simp only [Sem.run_bind, run, Result.andThen_ok, Sem.run_pure]
        rfl) ?_
      have hr : VRels G (List.replicate len za) (List.replicate len z) := ⟨by simp, fun j hj => by
        have : j < len := by simpa using hj
        simp only [List.getD_eq_getElem?_getD, List.getElem?_replicate, this, if_true, Option.getD_some]
        exact hzr⟩
      have hi' := h.inv.store b B (start * 1) cs (List.replicate len za) _ hb hB (by simp; omega) hr (fun c hc => by rw [List.eq_of_mem_replicate hc]; exact hzo)
      have hn' : Next G w G (w.setCells B (start * 1) (List.replicate len z)) := (Next.refl G w).setCells B vs.size (start * 1) _ hsv
      simp only [Nat.mul_one] at hi' hn' ⊢
      exact .of ((h.step hn' hi').set o.dst (.of (.pl _)) (by simp)) k

theorem call_sound (h : Rel W0 G0 w0 N G L st H ca w) {f : Operand} {f' : Opd} (hf : cOpd N f = some f') {xs : List Operand} {ys : List Opd} (hx : xs.mapM (cOpd N) = some ys) {tys : Array TypeId}
    (ho : o.op = .call { callee := .value f, args := xs.toArray, argTypes := tys }) (hny : ∀ b, st.ev f' ≠ .yfn b) (k : callAV P W0 (st.ev f') (ys.map st.ev) o.dst K st H) : o.wp P ca w (Post W0 G0 w0 N K) Q := by
  have h1 := h.opd hf
  generalize hv : ca.eval f = vf at *
  generalize st.ev f' = a at *
  cases a <;> simp only [callAV] at k <;> try exact k.elim
  rotate_left
  · rename_i b; exact (hny b rfl).elim
  rename_i fn first captured
  cases fn <;> simp only at k <;> try exact k.elim
  rename_i g
  obtain ⟨hg, he, k⟩ := k
  rw [List.all_append, List.all_append, Bool.and_eq_true, Bool.and_eq_true] at hg
  have hr := opds_rel h hx hg.1.2
  have := h1.rel (by simp)
  cases this with
  | fn _ _ _ vfs vcs hlf hlc hf hc =>
    have hargs : VRels G (first ++ ys.map st.ev ++ captured) (vfs ++ xs.map ca.eval ++ vcs) := VRels.append (VRels.append ⟨hlf, hf⟩ hr) ⟨hlc, hc⟩
    have run : (execOp ca.eval o).run P w = .ok (.enter g (vfs ++ xs.map ca.eval ++ vcs).toArray) w := by
      have := he (vfs ++ xs.map ca.eval ++ vcs).toArray w
      simp only [execOp, ho, resolve, hv, Deferred.ofValue, Sem.run_bind, Sem.run_pure, Result.andThen_ok, invoke]
      rw [← this]
      congr 2
      simp
    unfold Oper.wp
    rw [run, Oper.upon_enter]
    refine (k G w _ h.inv hargs).mono fun e w' ⟨v, r, H', G', e1, q, hn, hi, hv⟩ => ?_
    subst e1
    exact .of ((h.step hn hi).set o.dst (.of hv) (fun i off e => by subst e; cases hv)) q

/-! ### Inside a round -/
section
variable {n : Nat} {ro : Option Nat} {a : Act} {K' : Act → World → Prop} {ops : Array Oper}
theorem calls_rf {f : FuncId} {args : Array Value} {R : Ending → World → Prop} (h : Calls P f args w R) : CallsIn (RF ro) n P f args w R := by
  have h' : CallsIn Fence.wide n P f args w R := callsIn_wide.2 h
  cases ro with
  | none => exact h'
  | some l => exact CallsIn.inRound l h'
theorem rows_rf {row : String} {args : Array Value} {R : Value → World → Prop} (h : Rows P row args w R) : RowsIn (RF ro) n P row args w R :=
  fun c cs _ => let ⟨v, w', r, s⟩ := h c cs; ⟨v, w', r, stepsIn_wide.2 s⟩
theorem oper_rf (hnd : ∀ c, o.op ≠ .defer c) (h : o.wp P a w K' Q) : o.wpIn (RF ro) n P a w K' Q := by
  unfold Oper.wp at h
  refine ⟨fun f _ => trivial, ?_⟩
  rw [Oper.semAt_eq _ _ _ hnd]
  generalize (execOp a.eval o).run P w = r at *
  cases r with
  | ok x w' =>
    cases x <;> simp only [Oper.upon, Oper.uponIn] at h ⊢ <;> first
      | exact h
      | exact h.elim
      | exact ⟨fun q => (by cases q), calls_rf h⟩
      | exact ⟨fun q => (by cases q), rows_rf h⟩
  | halt x w' => cases x <;> simp only [Oper.upon, Oper.uponIn] at h ⊢ <;> first | exact h | exact h.elim

/-- A round is called. -/
theorem yield_sound (h : Rel W0 G0 w0 N G L st H ca w) {f : Operand} {f' : Opd} (hf : cOpd N f = some f') {xs : List Operand} {ys : List Opd} (hx : xs.mapM (cOpd N) = some ys) {tys : Array TypeId}
    (ho : o.op = .call { callee := .value f, args := xs.toArray, argTypes := tys }) {b : Nat} (hb : st.ev f' = .yfn b) (k : callAV P W0 (st.ev f') (ys.map st.ev) o.dst K st H) : o.wpIn (RF ro) n P ca w (Post W0 G0 w0 N K) Q := by
  have h1 := h.opd hf
  rw [hb] at h1 k
  have h2 := h1.rel (by simp)
  generalize hv : ca.eval f = vf at *
  cases h2 with
  | yfn _ B hB =>
    obtain ⟨hg, k⟩ := k
    have hr := opds_rel h hx hg
    obtain ⟨fn, tmps, asg, body, hy, hR⟩ := k G w B _ (n - 1) h.inv hB hr
    have run : (execOp ca.eval o).run P w = .ok (.round B fn tmps asg body) w := by
      simp only [execOp, ho, resolve, hv, Deferred.ofValue, Sem.run_bind, Sem.run_pure, Result.andThen_ok, invoke]
      rw [← hy]
      congr 2
      simp
    refine ⟨fun _ _ => trivial, ?_⟩
    rw [Oper.semAt_eq _ _ _ (by intro c e; rw [ho] at e; cases e), run, Oper.uponIn_round]
    refine ⟨fun q => (by cases q), ?_⟩
    have hR' : RoundIn (RF ro) (n - 1) P B fn tmps asg body w _ := hR
    refine hR'.mono fun e w' ⟨v, r, H', G', e1, q, hn, hi, hv⟩ => ?_
    subst e1
    exact .of ((h.step hn hi).set o.dst (.of hv) (fun i off e => by subst e; cases hv)) q
end
end
end Go.Qa
/- The abstract machine, part 9: from the model's code to the abstract code, and that what is asked of the one holds of the other. -/
namespace Go.Qa
open Go Go.RowKit

def cOpt (N : Nat) : Option Operand → Option (Option Opd)
  | none => some none
  | some x => (cOpd N x).map some
/-- An operation. -/
def cOp (P : Program) (N : Nat) (hs : List Nat) (o : Oper) : Option AOp :=
  let heap : Bool := match o.dst with
    | some t => hs.contains t
    | none => true
  -- a slice that is appended to lies in a box
  let app : Bool := match o.dst with
    | some t => hs.contains (N + t)
    | none => false
  match o.op with
  | .move x => (cOpd N x).map fun x => .pu (.mov x)
  | .assign x => (cOpd N x).map fun x => .pu (.mov x)
  | .pick c a b => (cOpd N c).bind fun c => (cOpd N a).bind fun a => (cOpd N b).map fun b => .pu (.pick c a b)
  | .alloc t => (P.info? t).bind fun i => i.zero.bind fun z => (z.cells.toList.mapM AV.ofCell).map fun cs => .ef (.alloc heap cs)
  | .box t x => (cOpd N x).map fun x => .ef (.box heap x)
  | .load t a => (P.underlying t).bind fun d => (P.info? t).bind fun i => (cOpd N a).map fun a => .pu (.load (if d.isRow then some i.size else none) a)
  | .store t a x => (P.info? t).bind fun i => (cOpd N a).bind fun a => (cOpd N x).map fun x => .ef (.store i.size a x)
  | .nilCheck x => (cOpd N x).map fun x => .pu (.nilck x)
  | .binOp op t x y _ => match P.underlying t with
    | some (.int _) | some .string => (cOpd N x).bind fun x => (cOpd N y).map fun y => .pu (.bin op x y)
    | _ => if op = .eql ∨ op = .neq then (ekOf P t (cst x || cst y)).bind fun k => (cOpd N x).bind fun x => (cOpd N y).map fun y => .px (.eqs k (op == .neq) x y) else none
  | .unOp op _ x => (cOpd N x).map fun x => .pu (.un op x)
  | .convert s d x => match P.underlying s, P.underlying d with
    | some (.int _), some (.int k) => (cOpd N x).map fun x => .pu (.i2i k x)
    | some .string, some .string => (cOpd N x).map fun x => .px (.ssame x)
    | some .string, some (.slice e) => match P.underlying e with
      | some (.int .u8) => (cOpd N x).map fun x => .ef (.s2b heap x)
      | _ => none
    | some (.slice e), some .string => match P.underlying e with
      | some (.int .u8) => (cOpd N x).map fun x => .px (.b2s x)
      | _ => none
    | _, _ => none
  | .build t parts => match P.underlying t with
    | some (.struct fields) => if fields.toList.all fun f => (P.info? f.type).isSome then
        (P.info? t).bind fun i => i.zero.bind fun z => (z.cells.toList.mapM AV.ofCell).bind fun zc =>
          ((parts.toList.map (·.1)).mapM fun j => (fields[j]?).map fun f => (f.offset, P.cellsOf f.type)).bind fun pl =>
            ((parts.toList.map (·.2)).mapM (cOpd N)).map fun ys => .pu (.build zc ((pl.zip ys).map fun p => (p.1.1, p.1.2, p.2))) else none
    | some (.array _ e) => (P.info? e).bind fun ei => (P.info? t).bind fun i => i.zero.bind fun z => (z.cells.toList.mapM AV.ofCell).bind fun zc =>
        ((parts.toList.map (·.2)).mapM (cOpd N)).map fun ys => .pu (.build zc (((parts.toList.map fun p => (p.1 * ei.size, ei.size)).zip ys).map fun p => (p.1.1, p.1.2, p.2)))
    | _ => none
  | .buildSlice t len parts => match P.underlying t with
    | some (.slice e) => (P.info? e).bind fun i => i.zero.bind fun _ =>
        if parts.toList.map (·.1) = List.range len ∧ len * i.size ≤ 16777216 ∧ len ≤ 16777216 then ((parts.toList.map (·.2)).mapM (cOpd N)).map fun ys => .ef (.bslice i.size ys) else none
    | _ => none
  | .makeFunc f first captured => (first.toList.mapM (cOpd N)).bind fun xs => (captured.toList.mapM (cOpd N)).map fun ys => .pu (.mkfn f xs ys)
  | .makeMap _ none => some (.ef .mkmap)
  | .makeInterface t x => match P.underlying t with
    | some (.interface _) => none
    | some _ => (cOpd N x).map fun x => .px (.mkif t x)
    | none => none
  | .makeSlice t l c => match P.underlying t with
    | some (.slice e) => (P.info? e).bind fun i => i.zero.bind fun z => (z.cells.toList.mapM AV.ofCell).bind fun zc => if z.cells.size = i.size then
        (cOpd N l).bind fun l => (cOpd N c).map fun c => .ef (.mksl i.size i.bytes zc l c) else none
    | _ => none
  | .lookup t x i ok => match P.underlying t with
    | some (.map kt et) => (kkOf P kt).bind fun k => (P.info? et).bind fun inf => inf.zero.bind fun z => (AV.ofConst z).bind fun za =>
        (cOpd N x).bind fun x => (cOpd N i).map fun i => .px (.lookup k za x i ok)
    | _ => none
  | .mapUpdate t m k v => match P.underlying t with
    | some (.map kt _) => (kkOf P kt).bind fun sk => (cOpd N m).bind fun m => (cOpd N k).bind fun k => (cOpd N v).map fun v => .ef (.mupd sk m k v)
    | _ => none
  | .insert t m k v => match P.underlying t with
    | some (.map kt _) => (kkOf P kt).bind fun sk => (cOpd N m).bind fun m => (cOpd N k).bind fun k => (cOpd N v).map fun v => .ef (.mupd sk m k v)
    | _ => none
  | .range t x => match P.underlying t with
    | some (.map _ _) => (cOpd N x).map fun x => .ef (.range x)
    | _ => none
  | .next x false => (cOpd N x).map fun x => .ef (.next x)
  | .entry x => (cOpd N x).map fun x => .px (.entry x)
  | .fieldAddr s x k => match P.underlying s with
    | some (.struct fields) => (fields[k]?).bind fun f => (P.info? f.type).bind fun i => if i.size = 0 then none else (cOpd N x).map fun x => .pu (.off f.offset x)
    | _ => none
  | .field s x k => match P.underlying s with
    | some (.struct fields) => (fields[k]?).bind fun f => (P.underlying f.type).bind fun d => (P.info? f.type).bind fun i => (cOpd N x).map fun x => .px (.fld f.offset (if d.isRow then some i.size else none) x)
    | _ => none
  | .indexAddr t x i => match P.underlying t with
    | some (.slice e) => (P.info? e).bind fun inf => (cOpd N x).bind fun x => (cOpd N i).map fun i => .pu (.iaddr inf.size x i)
    | some (.array n e) => (P.info? e).bind fun inf => (cOpd N x).bind fun x => (cOpd N i).map fun i => .px (.aaddr n inf.size x i)
    | _ => none
  | .index t x i => match P.underlying t with
    | some .string => (cOpd N x).bind fun x => (cOpd N i).map fun i => .pu (.idxS x i)
    | _ => none
  | .slice t x lo hi mx => match P.underlying t with
    | some .string => match mx with
      | none => (cOpd N x).bind fun x => (cOpt N lo).bind fun lo => (cOpt N hi).map fun hi => .pu (.slS x lo hi)
      | some _ => none
    | some (.slice e) => (P.info? e).bind fun i => (cOpd N x).bind fun x => (cOpt N lo).bind fun lo => (cOpt N hi).bind fun hi => (cOpt N mx).map fun mx => .pu (.slR i.size x lo hi mx)
    | some (.array n e) => match lo, hi, mx with
      | none, none, none => (P.info? e).bind fun i => (cOpd N x).map fun x => .px (.sarr n i.size x)
      | _, _, _ => none
    | _ => none
  | .extract x i => (cOpd N x).map fun x => .pu (.extr x i)
  | .call c => match c.callee with
    | .value f => (cOpd N f).bind fun f => (c.args.toList.mapM (cOpd N)).map fun xs => .ef (.call f xs)
    | .builtin .len => match c.args.toList, c.argTypes.toList with
      | [x], [t] => match P.underlying t with
        | some .string => (cOpd N x).map fun x => .pu (.lenS x)
        | some (.slice _) => (cOpd N x).map fun x => .pu (.lenR x)
        | some (.map _ _) => (cOpd N x).map fun x => .px (.lenM x)
        | _ => none
      | _, _ => none
    | .builtin .append => match c.args.toList, c.argTypes.toList with
      | [x, y], [t, ty] => match P.underlying t with
        | some (.slice e) => (P.info? e).bind fun i => i.zero.bind fun z => if z.cells.size = i.size ∧ 0 < i.bytes then
            (cOpd N x).bind fun x => (cOpd N y).bind fun y => match P.underlying ty with
              | some (.slice _) => some (.ef (if app then .appendA i.size i.bytes false x y else .append i.size i.bytes false x y))
              | some .string => if i.size = 1 then some (.ef (if app then .appendA i.size i.bytes true x y else .append i.size i.bytes true x y)) else none
              | _ => none else none
        | _ => none
      | _, _ => none
    | .builtin .clear => match c.args.toList, c.argTypes.toList with
      | [x], [t] => match P.underlying t with
        | some (.slice e) => (P.info? e).bind fun i => i.zero.bind fun z => (AV.ofCell z).bind fun za => if z.cells.toList.length = 1 ∧ z.oneCell' = true then (cOpd N x).map fun x => .ef (.clr za x) else none
        | _ => none
      | _, _ => none
    | .builtin .copy => match c.args.toList, c.argTypes.toList with
      | [x, y], [t, ty] => match P.underlying t, P.underlying ty with
        | some (.slice e), some (.slice _) => (P.info? e).bind fun i => (cOpd N x).bind fun x => (cOpd N y).map fun y => .ef (.copy i.size x y)
        | _, _ => none
      | _, _ => none
    | .builtin .min => match c.args.toList with
      | [x, y] => (cOpd N x).bind fun x => (cOpd N y).map fun y => .px (.imin x y)
      | _ => none
    | .builtin .max => match c.args.toList with
      | [x, y] => (cOpd N x).bind fun x => (cOpd N y).map fun y => .px (.imax x y)
      | _ => none
    | _ => none
  | _ => none

section
variable {W0 : World} {G0 : Ghost} {w0 : World} {N : Nat} {G G' : Ghost} {L : Nat → Option Nat} {st : AS} {H H' : AHeap} {ca : Act} {w w' : World} {P : Program}
variable {o : Oper} {K : AS → AHeap → Prop} {Q : Exit → Act → World → Prop} {hs : List Nat}

theorem cOpt_ok {x : Option Operand} {y : Option Opd} (h : cOpt N x = some y) : bdsOk N x y := by
  cases x with
  | none => simp [cOpt] at h; exact .inl ⟨rfl, h.symm⟩
  | some x =>
    simp only [cOpt, Option.map_eq_some_iff] at h
    obtain ⟨a, h1, h2⟩ := h
    exact .inr ⟨x, a, rfl, h2.symm, h1⟩

theorem pu_sound (h : Rel W0 G0 w0 N G L st H ca w) {e : PExp} {s : Sem Value} (he : execOp ca.eval o = (do pure (.value (← s)))) (hg : ∀ r, e.ev st H = some r → Gives P G L st w s r)
    (k : AOp.wp P W0 (.pu e) o.dst K st H) : o.wp P ca w (Post W0 G0 w0 N K) Q := by
  simp only [AOp.wp] at k
  split at k
  · rename_i r hr
    exact wp_gives h (hg r hr) he k
  · exact k.elim

theorem px_sound (h : Rel W0 G0 w0 N G L st H ca w) {e : XExp} {s : Sem Value} (he : execOp ca.eval o = (do pure (.value (← s)))) (hg : ∀ r, e.ev st H = some r → Gives P G L st w s r)
    (k : AOp.wp P W0 (.px e) o.dst K st H) : o.wp P ca w (Post W0 G0 w0 N K) Q := by
  simp only [AOp.wp] at k
  split at k
  · rename_i r hr
    exact wp_gives h (hg r hr) he k
  · exact k.elim

theorem cOp_sound (h : Rel W0 G0 w0 N G L st H ca w) {ao : AOp} (hny : ∀ f args tys f' b, o.op = .call ⟨.value f, args, tys⟩ → cOpd N f = some f' → st.ev f' ≠ .yfn b) (hc : cOp P N hs o = some ao) (hd : ∀ t, o.dst = some t → t < N) (k : ao.wp P W0 o.dst K st H) : o.wp P ca w (Post W0 G0 w0 N K) Q := by
  unfold cOp at hc
  cases ho : o.op with
  | move x =>
    simp only [ho, Option.map_eq_some_iff] at hc
    obtain ⟨y, hy, rfl⟩ := hc
    simp only [AOp.wp, PExp.ev] at k
    refine wp_value (v := ca.eval x) (by simp only [execOp, ho]; rfl) (.of (h.set o.dst (h.opd hy) (fun i off e => h.opd_loc hy e)) k)
  | assign x =>
    simp only [ho, Option.map_eq_some_iff] at hc
    obtain ⟨y, hy, rfl⟩ := hc
    simp only [AOp.wp, PExp.ev] at k
    refine wp_value (v := ca.eval x) (by simp only [execOp, ho]; rfl) (.of (h.set o.dst (h.opd hy) (fun i off e => h.opd_loc hy e)) k)
  | pick c a b =>
    simp only [ho, Option.bind_eq_some_iff, Option.map_eq_some_iff] at hc
    obtain ⟨c', hc', a', ha', b', hb', rfl⟩ := hc
    simp only [AOp.wp, PExp.ev] at k
    have h1 := h.opd hc'
    split at k
    · rename_i r hr
      split at hr
      · rename_i e
        rw [e] at h1
        cases hr
        exact wp_value (v := ca.eval a) (by simp [execOp, ho, h1.bool, asBool]) (.of (h.set o.dst (h.opd ha') (fun i off e => h.opd_loc ha' e)) k)
      · rename_i e
        rw [e] at h1
        cases hr
        exact wp_value (v := ca.eval b) (by simp [execOp, ho, h1.bool, asBool]) (.of (h.set o.dst (h.opd hb') (fun i off e => h.opd_loc hb' e)) k)
      · cases hr
    · exact k.elim
  | alloc t =>
    simp only [ho, Option.bind_eq_some_iff, Option.map_eq_some_iff] at hc
    obtain ⟨i, hi, z, hz, cs, hcs, rfl⟩ := hc
    obtain ⟨hv, h1⟩ := mapM_cells (G := G) hcs
    refine newVar_sound (ty := t) h hv h1 hd ?_ k
    simp [execOp, ho, Instr.alloc, zeroValue, typeInfo, hi, hz, newVar, newRow]
  | box t x =>
    simp only [ho, Option.map_eq_some_iff] at hc
    obtain ⟨y, hy, rfl⟩ := hc
    simp only [AOp.wp, EOp.wp] at k
    split at k
    · rename_i cs hcs
      have h2 : VRel G (st.ev y) (ca.eval x) := (h.opd hy).rel (fun t off e => by rw [e] at hcs; simp [AV.cells?, AV.one] at hcs)
      obtain ⟨hv, h1⟩ := h2.cells hcs
      refine newVar_sound (ty := t) h hv h1 hd ?_ k
      simp [execOp, ho, Instr.box, newVar, newRow]
    · exact k.elim
  | load t a =>
    simp only [ho, Option.bind_eq_some_iff, Option.map_eq_some_iff] at hc
    obtain ⟨d, hdd, i, hi, y, hy, rfl⟩ := hc
    refine pu_sound h (s := Instr.loadAt t (ca.eval a)) (by simp only [execOp, ho]) (fun r hr => ?_) k
    obtain ⟨v, hv, hr⟩ := load_sound h hdd hi hy hr
    exact .rel hv hr
  | store t a x =>
    simp only [ho, Option.bind_eq_some_iff, Option.map_eq_some_iff] at hc
    obtain ⟨i, hi, a', ha, x', hx, rfl⟩ := hc
    simp only [AOp.wp, EOp.wp] at k
    split at k
    · rename_i ns hns
      exact store_sound h hi ha hx ho hns k
    · exact k.elim
  | nilCheck x =>
    simp only [ho, Option.map_eq_some_iff] at hc
    obtain ⟨y, hy, rfl⟩ := hc
    simp only [AOp.wp] at k
    split at k
    · rename_i r hr
      obtain ⟨v, hv, h1, h2⟩ := nilck_sound (P := P) h hy hr o ho
      exact wp_value hv (.of (h.set o.dst h1 h2) k)
    · exact k.elim
  | binOp op t x y z =>
    simp only [ho] at hc
    have two : ∀ {a : AOp}, ((cOpd N x).bind fun x => (cOpd N y).map fun y => AOp.pu (.bin op x y)) = some a → AOp.wp P W0 a o.dst K st H → o.wp P ca w (Post W0 G0 w0 N K) Q := by
      intro a hc k
      simp only [Option.bind_eq_some_iff, Option.map_eq_some_iff] at hc
      obtain ⟨x', hx, y', hy, rfl⟩ := hc
      exact pu_sound h (s := do eqGuard op t x y (ca.eval x) (ca.eval y); binOp op t (ca.eval x) (ca.eval y)) (by simp only [execOp, ho]) (fun r hr => bin_sound h hx hy hr) k
    split at hc
    · exact two hc k
    · exact two hc k
    · split at hc
      · rename_i hop
        simp only [Option.bind_eq_some_iff, Option.map_eq_some_iff] at hc
        obtain ⟨ek, hek, x', hx, y', hy, rfl⟩ := hc
        refine px_sound h (s := do eqGuard op t x y (ca.eval x) (ca.eval y); binOp op t (ca.eval x) (ca.eval y)) (by simp only [execOp, ho]) (fun r hr => ?_) k
        simp only [XExp.ev, Option.map_eq_some_iff] at hr
        obtain ⟨b, hb, rfl⟩ := hr
        have := eqs_sound (P := P) h hx hy hek hb hop
        rcases hop with rfl | rfl <;> simpa using this
      · cases hc
  | build t parts =>
    simp only [ho] at hc
    split at hc
    · rename_i fields hf
      split at hc
      · rename_i hall
        simp only [Option.bind_eq_some_iff, Option.map_eq_some_iff] at hc
        obtain ⟨i, hi, z, hz, zc, hzc, pl, hpl, ys, hys, rfl⟩ := hc
        obtain ⟨hpll, hplg⟩ := mapM_get' hpl
        have key := fun r hr => build_sound (P := P) (r := r) h hf hi hz hzc (fun f hfm => List.all_eq_true.1 hall f hfm) hys (by simp) hpll (fun q j hq => by
          obtain ⟨y, hy1, hy2⟩ := hplg q j hq
          simp only [Option.map_eq_some_iff] at hy2
          obtain ⟨f, hff, rfl⟩ := hy2
          exact ⟨f, hff, hy1⟩) hr
        refine pu_sound h (s := Instr.build t (parts.map fun (i, x) => (i, ca.eval x))) (by simp only [execOp, ho]) (fun r hr => ?_) k
        have e : (((parts.toList.map (·.1)).zip ((parts.toList.map (·.2)).map ca.eval)).toArray) = parts.map fun (i, x) => (i, ca.eval x) := by
          apply Array.ext'
          simp [List.zip_map', List.zip_map]
        rw [← e]
        exact key r hr
      · cases hc
    · rename_i n e he
      simp only [Option.bind_eq_some_iff, Option.map_eq_some_iff] at hc
      obtain ⟨ei, hei, i, hi, z, hz, zc, hzc, ys, hys, rfl⟩ := hc
      have key := fun r hr => buildA_sound (P := P) (r := r) (idx := parts.toList.map (·.1)) h he hei hi hz hzc hys (by simp) (by simpa [List.map_map, Function.comp_def] using hr)
      refine pu_sound h (s := Instr.build t (parts.map fun (i, x) => (i, ca.eval x))) (by simp only [execOp, ho]) (fun r hr => ?_) k
      have e2 : (((parts.toList.map (·.1)).zip ((parts.toList.map (·.2)).map ca.eval)).toArray) = parts.map fun (i, x) => (i, ca.eval x) := by
        apply Array.ext'
        simp [List.zip_map', List.zip_map]
      rw [← e2]
      exact key r hr
    · cases hc
  | buildSlice t len parts =>
    simp only [ho] at hc
    split at hc
    · rename_i e he
      simp only [Option.bind_eq_some_iff] at hc
      obtain ⟨i, hi, z, hz, hc⟩ := hc
      split at hc
      · rename_i hcond
        simp only [Option.map_eq_some_iff] at hc
        obtain ⟨ys, hys, rfl⟩ := hc
        obtain ⟨hall, k⟩ := k
        have hpl : parts.toList.length = len := by have := congrArg List.length hcond.1; simpa using this
        obtain ⟨us, hrun, hrel⟩ := bslice_run (P := P) h he hi hz hys (by simp; rw [Array.length_toList] at hpl; rw [hpl]; exact hcond.2.1) (fun x hx => List.all_eq_true.1 hall x hx)
        have elen : (parts.toList.map (·.2)).length = len := by simpa using hpl
        rw [elen] at hrun
        have e2 : ((List.range len).zip ((parts.toList.map (·.2)).map ca.eval)).toArray = parts.map fun (i, x) => (i, ca.eval x) := by
          rw [← hcond.1]
          apply Array.ext'
          simp [List.zip_map', List.zip_map]
        rw [e2] at hrun
        have hlen : (ys.map st.ev).length = len := by rw [List.length_map, (mapM_get' hys).1]; exact elen
        obtain ⟨G', hn, hiv, hrow⟩ := h.inv.newRow (ys.map st.ev) i.size us [] e len (fun x hx => List.all_eq_true.1 hall x hx) hrel (by rw [List.append_nil, hrel.1, flat_length (fun x hx => List.all_eq_true.1 hall x hx), hlen]) (by omega)
          (by have := hcond.2.2; unfold maxLen; omega) false (by intro _; omega) 0
        simp only [List.append_nil] at hn hiv hrow
        refine wp_value0 (v := .slice (some ⟨w.heap.size, 0, none⟩) len len) (by simp only [execOp, ho]; simp only [Sem.run_bind, hrun, Result.andThen_ok, Sem.run_pure]; rfl) ?_
        refine ⟨_, _, k, _, _, (h.step hn (by simpa using hiv)).set o.dst (.of ?_) (by simp)⟩
        rw [hlen] at hrow
        simpa using hrow
      · cases hc
    · cases hc
  | makeFunc f first captured =>
    simp only [ho, Option.bind_eq_some_iff, Option.map_eq_some_iff] at hc
    obtain ⟨xs, hxs, ys, hys, rfl⟩ := hc
    exact pu_sound h (s := Instr.makeFunc f (first.map ca.eval) (captured.map ca.eval)) (by simp only [execOp, ho]) (fun r hr => by
      have := mkfn_sound (P := P) h hxs hys hr
      simpa using this) k
  | makeMap t r =>
    simp only [ho] at hc
    cases r with
    | some _ => cases hc
    | none =>
      cases hc
      exact mkmap_sound h (by simp [execOp, ho, Instr.makeMap]) k
  | makeInterface t x =>
    simp only [ho] at hc
    split at hc
    · cases hc
    · rename_i d hne hd
      simp only [Option.map_eq_some_iff] at hc
      obtain ⟨y, hy, rfl⟩ := hc
      refine px_sound h (s := Instr.makeInterface t (ca.eval x)) (by simp only [execOp, ho]) (fun r hr => ?_) k
      simp only [XExp.ev] at hr
      split at hr
      · rename_i hg
        cases hr
        refine .rel (v := .iface t (ca.eval x)) ?_ (.iface _ _ _ ((h.opd hy).rel (fun i off e => by rw [e] at hg; cases hg)))
        unfold Instr.makeInterface
        rw [Sem.run_bind, run_underlying hd]
        cases d <;> first | rfl | exact absurd rfl (hne _)
      · cases hr
    · cases hc
  | makeSlice t x y =>
    simp only [ho] at hc
    split at hc
    · rename_i e he
      simp only [Option.bind_eq_some_iff] at hc
      obtain ⟨i, hi, z, hz, zc, hzc, hc⟩ := hc
      split at hc
      · rename_i hzs
        simp only [Option.bind_eq_some_iff, Option.map_eq_some_iff] at hc
        obtain ⟨x', hx, y', hy, rfl⟩ := hc
        exact mksl_sound h he hi hz hzc hzs hx hy ho k
      · cases hc
    · cases hc
  | lookup t x i ok =>
    simp only [ho] at hc
    split at hc
    · rename_i kt et ht
      simp only [Option.bind_eq_some_iff, Option.map_eq_some_iff] at hc
      obtain ⟨sk, hsk, inf, hinf, z, hz, za, hza, x', hx, i', hi, rfl⟩ := hc
      refine px_sound h (s := Instr.lookup t (ca.eval x) (ca.eval i) ok) (by simp only [execOp, ho]) (fun r hr => ?_) k
      simp only [XExp.ev] at hr
      split at hr
      · rename_i es hes
        split at hr
        · rename_i hkey
          exact lookup_sound h ht (klaw_of hsk) hinf hz hza hx hi hes hkey hr
        · cases hr
      · cases hr
    · cases hc
  | mapUpdate t m key v =>
    simp only [ho] at hc
    split at hc
    · rename_i kt et ht
      simp only [Option.bind_eq_some_iff, Option.map_eq_some_iff] at hc
      obtain ⟨sk, hsk, m', hm, k', hk', v', hv, rfl⟩ := hc
      simp only [AOp.wp, EOp.wp] at k
      split at k
      · rename_i j hj
        exact mupd_sound h ht (klaw_of hsk) hm hk' hv hj (by simp only [execOp, ho]) k
      · exact k.elim
    · cases hc
  | insert t m key v =>
    simp only [ho] at hc
    split at hc
    · rename_i kt et ht
      simp only [Option.bind_eq_some_iff, Option.map_eq_some_iff] at hc
      obtain ⟨sk, hsk, m', hm, k', hk', v', hv, rfl⟩ := hc
      simp only [AOp.wp, EOp.wp] at k
      split at k
      · rename_i j hj
        exact mupd_sound h ht (klaw_of hsk) hm hk' hv hj (by simp only [execOp, ho]) k
      · exact k.elim
    · cases hc
  | range t x =>
    simp only [ho] at hc
    split at hc
    · rename_i kt et ht
      simp only [Option.map_eq_some_iff] at hc
      obtain ⟨y, hy, rfl⟩ := hc
      exact range_sound h ht hy (by simp only [execOp, ho]) k
    · cases hc
  | next x s =>
    cases s with
    | true => simp only [ho] at hc; cases hc
    | false =>
      simp only [ho, Option.map_eq_some_iff] at hc
      obtain ⟨y, hy, rfl⟩ := hc
      exact next_sound (ty := o.type) h hy (by simp only [execOp, ho]) k
  | entry x =>
    simp only [ho, Option.map_eq_some_iff] at hc
    obtain ⟨y, hy, rfl⟩ := hc
    exact px_sound (e := .entry y) h (s := Instr.entry (ca.eval x)) (by simp only [execOp, ho]) (fun r hr => entry_sound h hy hr) k
  | unOp op t x =>
    simp only [ho, Option.map_eq_some_iff] at hc
    obtain ⟨y, hy, rfl⟩ := hc
    exact pu_sound h (by simp only [execOp, ho]) (fun r hr => un_sound h hy hr) k
  | convert s d x =>
    simp only [ho] at hc
    split at hc
    · rename_i j k' hs' hd'
      simp only [Option.map_eq_some_iff] at hc
      obtain ⟨y, hy, rfl⟩ := hc
      exact pu_sound h (by simp only [execOp, ho]) (fun r hr => i2i_sound h hs' hd' hy hr) k
    · rename_i hs' hd'
      simp only [Option.map_eq_some_iff] at hc
      obtain ⟨y, hy, rfl⟩ := hc
      refine px_sound h (s := convert s d (ca.eval x)) (by simp only [execOp, ho]) (fun r hr => ?_) k
      simp only [XExp.ev] at hr
      have h1 := h.opd hy
      split at hr
      · rename_i l e
        cases hr
        rw [e] at h1
        obtain ⟨e1, hl⟩ := h1.str
        rw [e1]
        refine .rel ?_ (.str l hl)
        simp [convert, run_underlying hs', run_underlying hd']
        rfl
      · cases hr
    · rename_i e hs' hd'
      split at hc
      · rename_i he
        simp only [Option.map_eq_some_iff] at hc
        obtain ⟨y, hy, rfl⟩ := hc
        exact s2b_sound h hs' hd' he hy (by simp only [execOp, ho]) k
      · cases hc
    · rename_i e hs' hd'
      split at hc
      · rename_i he
        simp only [Option.map_eq_some_iff] at hc
        obtain ⟨y, hy, rfl⟩ := hc
        exact px_sound (e := .b2s y) h (s := convert s d (ca.eval x)) (by simp only [execOp, ho]) (fun r hr => b2s_sound h hs' he hd' hy hr) k
      · cases hc
    · cases hc
  | fieldAddr s x n =>
    simp only [ho] at hc
    split at hc
    · rename_i fields hf
      simp only [Option.bind_eq_some_iff] at hc
      obtain ⟨f, hff, i, hi, hc⟩ := hc
      split at hc
      · cases hc
      · rename_i hz
        simp only [Option.map_eq_some_iff] at hc
        obtain ⟨y, hy, rfl⟩ := hc
        exact pu_sound h (by simp only [execOp, ho]) (fun r hr => off_sound h hf hff hi hz hy hr) k
    · cases hc
  | field s x n =>
    simp only [ho] at hc
    split at hc
    · rename_i fields hf
      simp only [Option.bind_eq_some_iff, Option.map_eq_some_iff] at hc
      obtain ⟨f, hff, d, hd, i, hi, y, hy, rfl⟩ := hc
      exact px_sound (e := .fld f.offset (if d.isRow then some i.size else none) y) h (s := Instr.field s (ca.eval x) n) (by simp only [execOp, ho]) (fun r hr => fld_sound h hf hff hd hi hy hr) k
    · cases hc
  | indexAddr t x i =>
    simp only [ho] at hc
    split at hc
    · rename_i e he
      simp only [Option.bind_eq_some_iff, Option.map_eq_some_iff] at hc
      obtain ⟨inf, hi, x', hx, y', hy, rfl⟩ := hc
      exact pu_sound h (by simp only [execOp, ho]) (fun r hr => iaddr_sound h he hi hx hy hr) k
    · rename_i n e he
      simp only [Option.bind_eq_some_iff, Option.map_eq_some_iff] at hc
      obtain ⟨inf, hi, x', hx, y', hy, rfl⟩ := hc
      refine px_sound (e := .aaddr n inf.size x' y') h (s := Instr.indexAt t (ca.eval x) (ca.eval i)) (by simp only [execOp, ho]) (fun r hr => aaddr_sound h he hi hx hy hr) k
    · cases hc
  | index t x i =>
    simp only [ho] at hc
    split at hc
    · rename_i he
      simp only [Option.bind_eq_some_iff, Option.map_eq_some_iff] at hc
      obtain ⟨x', hx, y', hy, rfl⟩ := hc
      exact pu_sound h (by simp only [execOp, ho]) (fun r hr => idxS_sound h he hx hy hr) k
    · cases hc
  | slice t x lo hi mx =>
    simp only [ho] at hc
    split at hc
    · rename_i he
      split at hc
      · simp only [Option.bind_eq_some_iff, Option.map_eq_some_iff] at hc
        obtain ⟨x', hx, lo', hlo, hi', hhi, rfl⟩ := hc
        exact pu_sound h (by simp only [execOp, ho]; rfl) (fun r hr => slS_sound h he hx (cOpt_ok hlo) (cOpt_ok hhi) hr) k
      · cases hc
    · rename_i e he
      simp only [Option.bind_eq_some_iff, Option.map_eq_some_iff] at hc
      obtain ⟨inf, hinf, x', hx, lo', hlo, hi', hhi, mx', hmx, rfl⟩ := hc
      exact pu_sound h (by simp only [execOp, ho]) (fun r hr => slR_sound h he hinf hx (cOpt_ok hlo) (cOpt_ok hhi) (cOpt_ok hmx) hr) k
    · rename_i n e he
      split at hc
      · simp only [Option.bind_eq_some_iff, Option.map_eq_some_iff] at hc
        obtain ⟨inf, hinf, x', hx, rfl⟩ := hc
        exact px_sound (e := .sarr n inf.size x') h (s := Instr.sliceAt t (ca.eval x) none none none) (by simp only [execOp, ho]; rfl) (fun r hr => sarr_sound h he hinf hx hr) k
      · cases hc
    · cases hc
  | extract x i =>
    simp only [ho, Option.map_eq_some_iff] at hc
    obtain ⟨y, hy, rfl⟩ := hc
    exact pu_sound h (by simp only [execOp, ho]) (fun r hr => extr_sound h hy hr) k
  | call c =>
    obtain ⟨callee, args, argTypes⟩ := c
    simp only [ho] at hc
    split at hc
    · rename_i f
      simp only [Option.bind_eq_some_iff, Option.map_eq_some_iff] at hc
      obtain ⟨f', hf, xs, hxs, rfl⟩ := hc
      exact call_sound (tys := argTypes) h hf hxs (by simpa using ho) (fun b => hny _ _ _ _ b ho hf) k
    · split at hc
      · rename_i x t ha ht
        have ea : args = #[x] := by cases args; simpa using ha
        have et : argTypes = #[t] := by cases argTypes; simpa using ht
        subst ea et
        have ex : ∀ q, execOp ca.eval o = (do pure (.value (← Builtin.len_ #[t] o.type #[ca.eval x]))) ∨ q := fun q => .inl (by
          simp [execOp, ho, resolve, invoke, builtin])
        split at hc
        · rename_i he
          simp only [Option.map_eq_some_iff] at hc
          obtain ⟨y, hy, rfl⟩ := hc
          exact pu_sound h ((ex False).resolve_right id) (fun r hr => lenS_sound h he hy hr) k
        · rename_i e he
          simp only [Option.map_eq_some_iff] at hc
          obtain ⟨y, hy, rfl⟩ := hc
          exact pu_sound h ((ex False).resolve_right id) (fun r hr => lenR_sound h he hy hr) k
        · rename_i e f he
          simp only [Option.map_eq_some_iff] at hc
          obtain ⟨y, hy, rfl⟩ := hc
          refine px_sound h ((ex False).resolve_right id) (fun r hr => ?_) k
          simp only [XExp.ev, Option.map_eq_some_iff] at hr
          obtain ⟨es, hes, rfl⟩ := hr
          exact lenM_sound h he hy hes
        · cases hc
      · cases hc
    · split at hc
      · rename_i x y t ty ha ht
        have ea : args = #[x, y] := by cases args; simpa using ha
        have et : argTypes = #[t, ty] := by cases argTypes; simpa using ht
        subst ea et
        split at hc
        · rename_i e he
          simp only [Option.bind_eq_some_iff] at hc
          obtain ⟨i, hi, z, hz, hc⟩ := hc
          split at hc
          · rename_i hcond
            simp only [Option.bind_eq_some_iff] at hc
            obtain ⟨x', hx, y', hy, hc⟩ := hc
            have hop : execOp ca.eval o = (do pure (.value (← Builtin.append_ #[t, ty] o.type #[ca.eval x, ca.eval y]))) := by
              simp [execOp, ho, resolve, invoke, builtin]
            split at hc
            · rename_i e' he'
              cases hc
              generalize (match o.dst with | some t => hs.contains (N + t) | none => false) = app at k
              cases app
              all_goals
                simp only [Bool.false_eq_true, if_false, if_true, AOp.wp, EOp.wp] at k
                obtain ⟨hstr, k⟩ := k
                split at k
                · rename_i ys hys
                  obtain ⟨hsz, news, hn, hs⟩ := src_sound (t := ty) (e := e) h hy (.inl ⟨e', he'⟩) (fun q => by rw [he'] at q; cases q) (fun _ s q => by rw [q] at hstr; cases hstr) hys
                  first
                    | exact append_sound h he hi hz hcond.1 hcond.2 hx hy hop hsz hn hs k
                    | exact appendA_sound h he hi hz hcond.1 hcond.2 hx hy hop hsz hn hs k
                · exact k.elim
            · rename_i he'
              split at hc
              · rename_i hone
                cases hc
                generalize (match o.dst with | some t => hs.contains (N + t) | none => false) = app at k
                cases app
                all_goals
                  simp only [Bool.false_eq_true, if_false, if_true, AOp.wp, EOp.wp] at k
                  obtain ⟨hstr, k⟩ := k
                  split at k
                  · rename_i ys hys
                    obtain ⟨hsz, news, hn, hs⟩ := src_sound (t := ty) (e := e) h hy (.inr ⟨he', hone⟩) (fun q => by
                      generalize st.ev y' = a at *
                      cases a <;> simp [AV.isStr] at hstr
                      exact ⟨_, rfl⟩) (fun ⟨e', q⟩ => by rw [he'] at q; cases q) hys
                    first
                      | exact append_sound h he hi hz hcond.1 hcond.2 hx hy hop hsz hn hs k
                      | exact appendA_sound h he hi hz hcond.1 hcond.2 hx hy hop hsz hn hs k
                  · exact k.elim
              · cases hc
            · cases hc
          · cases hc
        · cases hc
      · cases hc
    · split at hc
      · rename_i x t ha ht
        have ea : args = #[x] := by cases args; simpa using ha
        have et : argTypes = #[t] := by cases argTypes; simpa using ht
        subst ea et
        split at hc
        · rename_i e he
          simp only [Option.bind_eq_some_iff] at hc
          obtain ⟨i, hi, z, hz, za, hza, hc⟩ := hc
          split at hc
          · rename_i hone
            simp only [Option.map_eq_some_iff] at hc
            obtain ⟨x', hx, rfl⟩ := hc
            have hzc : z.cells = #[z] := by
              have := hone.2
              cases z <;> simp_all [Value.cells, Value.oneCell']
            exact clr_sound h he hi hz hzc hza hx (by simp [execOp, ho, resolve, invoke, builtin]) k
          · cases hc
        · cases hc
      · cases hc
    · split at hc
      · rename_i x y t ty ha ht
        have ea : args = #[x, y] := by cases args; simpa using ha
        have et : argTypes = #[t, ty] := by cases argTypes; simpa using ht
        subst ea et
        split at hc
        · rename_i e e' he he'
          simp only [Option.bind_eq_some_iff, Option.map_eq_some_iff] at hc
          obtain ⟨i, hi, x', hx, y', hy, rfl⟩ := hc
          simp only [AOp.wp, EOp.wp] at k
          obtain ⟨hstr, k⟩ := k
          split at k
          · rename_i ys hys
            obtain ⟨hsz, news, hn, hs⟩ := src_sound (t := ty) (e := e) h hy (.inl ⟨e', he'⟩) (fun q => by rw [he'] at q; cases q) (fun _ s q => by rw [q] at hstr; cases hstr) hys
            exact copy_sound h he hi hx (by simp [execOp, ho, resolve, invoke, builtin]) hsz hn hs k
          · exact k.elim
        · cases hc
      · cases hc
    · split at hc
      · rename_i x y ha
        have ea : args = #[x, y] := by cases args; simpa using ha
        subst ea
        simp only [Option.bind_eq_some_iff, Option.map_eq_some_iff] at hc
        obtain ⟨x', hx, y', hy, rfl⟩ := hc
        refine px_sound h (s := Builtin.min_ argTypes o.type #[ca.eval x, ca.eval y]) (by simp [execOp, ho, resolve, invoke, builtin]) (fun r hr => ?_) k
        have h1 := h.opd hx
        have h2 := h.opd hy
        simp only [XExp.ev] at hr
        split at hr
        · rename_i e1 e2
          split at hr
          · rename_i hk
            cases hr
            rw [e1] at h1; rw [e2] at h2
            rw [h1.int, h2.int]
            exact .rel (by simp [Builtin.min_, Builtin.min2]) (.int _ _)
          · cases hr
        · cases hr
      · cases hc
    · split at hc
      · rename_i x y ha
        have ea : args = #[x, y] := by cases args; simpa using ha
        subst ea
        simp only [Option.bind_eq_some_iff, Option.map_eq_some_iff] at hc
        obtain ⟨x', hx, y', hy, rfl⟩ := hc
        refine px_sound h (s := Builtin.max_ argTypes o.type #[ca.eval x, ca.eval y]) (by simp [execOp, ho, resolve, invoke, builtin]) (fun r hr => ?_) k
        have h1 := h.opd hx
        have h2 := h.opd hy
        simp only [XExp.ev] at hr
        split at hr
        · rename_i e1 e2
          split at hr
          · rename_i hk
            cases hr
            rw [e1] at h1; rw [e2] at h2
            rw [h1.int, h2.int]
            exact .rel (by simp [Builtin.max_, Builtin.max2]) (.int _ _)
          · cases hr
        · cases hr
      · cases hc
    · cases hc
  | _ => simp only [ho] at hc; cases hc

theorem cOp_sound_in {n : Nat} {ro : Option Nat} (h : Rel W0 G0 w0 N G L st H ca w) {ao : AOp} (hc : cOp P N hs o = some ao) (hd : ∀ t, o.dst = some t → t < N) (k : ao.wp P W0 o.dst K st H) : o.wpIn (RF ro) n P ca w (Post W0 G0 w0 N K) Q := by
  by_cases hq : ∃ f args tys f' b, o.op = .call ⟨.value f, args, tys⟩ ∧ cOpd N f = some f' ∧ st.ev f' = .yfn b
  · obtain ⟨f, args, tys, f', b, ho, hf, hb⟩ := hq
    unfold cOp at hc
    simp only [ho, Option.bind_eq_some_iff, Option.map_eq_some_iff] at hc
    obtain ⟨f2, hf2, ys, hys, rfl⟩ := hc
    rw [hf] at hf2
    cases hf2
    exact yield_sound (xs := args.toList) (tys := tys) h hf hys (by simpa using ho) hb k
  · refine oper_rf (fun c e => ?_) (cOp_sound h (fun f args tys f' b ho hf hb => hq ⟨f, args, tys, f', b, ho, hf, hb⟩) hc hd k)
    unfold cOp at hc
    simp [e] at hc
end
end Go.Qa
/- The abstract machine: blocks that are made before the abstract heap has them: made; taken up. -/
namespace Go.Qa
open Go Go.RowKit

def AS.pend (st : AS) (t : Nat) (o : PObj) : AS := { s := fun i => if i = t then .any else st.s i, loc := st.loc, pnd := fun i => if i = t then some o else st.pnd i }
def PObj.av (o : PObj) (n : Nat) : AV :=
  match o with
  | .cells _ => .ref n 0
  | .map => .map n
  | .arr k _ esz _ => .arr n 0 k esz
def PObj.obj (o : PObj) : AObj :=
  match o with
  | .cells cs => .cells cs
  | .map => .map [] 0
  | .arr _ _ _ cs => .cells cs
def AS.pub (st : AS) (t : Nat) (o : PObj) (n : Nat) : AS := { s := fun i => if i = t then o.av n else st.s i, loc := st.loc, pnd := fun i => if i = t then none else st.pnd i }

section
variable {W0 : World} {G0 : Ghost} {w0 : World} {N : Nat} {G G' : Ghost} {L : Nat → Option Nat} {st : AS} {H H' : AHeap} {ca : Act} {w w' : World} {P : Program}

/-- A block of no ghost is made. -/
theorem Rel.grow (h : Rel W0 G0 w0 N G L st H ca w) (ob : Obj) : Rel W0 G0 w0 N G L st H ca (w.alloc ob) := by
  have hs := alloc_size w ob
  have hk : ∀ B, B < w.heap.size → (w.alloc ob).heap[B]? = w.heap[B]? := fun B q => heap_push_lt q
  refine { bw := h.bw, next := ⟨h.next.le, by rw [hs]; have := h.next.size; omega, fun B hB q => (hk B (by have := h.next.size; omega)).trans (h.next.keep B hB q), h.next.fresh⟩, inv := h.inv.frame (h.inv.base.alloc h.inv.base.size _) (by rw [hs]; omega) fun B n q => hk B (h.inv.lt B n q).2, defers := h.defers.go (fun _ _ q => q) (fun D _ hd => hk D (Array.getElem?_eq_some_iff.1 hd).1), size := h.size, slots := h.slots, locs := fun t cs e => ?_, linj := h.linj, lrefs := h.lrefs, pnds := h.pnds.go (.refl G) fun B _ hlt hs _ => ⟨hs, hk B hlt⟩ }
  obtain ⟨B, vs, ty, p1, p2, p3, p4, p5, p6⟩ := h.locs t cs e
  exact ⟨B, vs, ty, p1, p2, p3, (hk B (Array.getElem?_eq_some_iff.1 p4).1).trans p4, p5, p6⟩

theorem Rel.pend (h : Rel W0 G0 w0 N G L st H ca w) {t : Nat} (ht : t < N) {o : PObj} {ob : Obj} {v : Value} (hp : PRel G (w.alloc ob) w.heap.size v o) : Rel W0 G0 w0 N G L (st.pend t o) H (ca.put (some t) v) (w.alloc ob) := by
  have h1 := (h.grow ob).set (some t) (x := .any) (v := v) (.of (.any v)) (by simp)
  refine { bw := h1.bw, next := h1.next, inv := h1.inv, defers := h1.defers, size := h1.size, slots := h1.slots, locs := h1.locs, linj := h1.linj, lrefs := h1.lrefs, pnds := ?_ }
  obtain ⟨M, m1, m2, m3⟩ := h.pnds
  have hM : ∀ i, st.pnd i ≠ none → ∃ B, M i = some B ∧ B < w.heap.size := fun i e => by
    obtain ⟨o', ho'⟩ := Option.ne_none_iff_exists'.1 e
    obtain ⟨_, _, B, c, _, _, g⟩ := m1 i o' ho'
    exact ⟨B, c, g.lt⟩
  refine ⟨fun i => if i = t then some w.heap.size else M i, fun i o' e => ?_, fun i j a b e => ?_, fun i l a b => ?_⟩
  · simp only [AS.pend] at e
    by_cases q : i = t
    · subst q
      rw [if_pos rfl] at e
      cases e
      refine ⟨ht, by simp [AS.pend], w.heap.size, by simp, h.next.size, h.inv.nosz (Nat.le_refl _), ?_⟩
      have e2 : (ca.tmps.setIfInBounds i v).getD i undef = v := by
        rw [Array.getD_eq_getD_getElem?, Array.getElem?_setIfInBounds_self, if_pos (by rw [h.size]; exact ht)]; rfl
      simp only [Act.put, e2]
      exact hp
    · rw [if_neg q] at e
      obtain ⟨a, b, B, c, d, f, g⟩ := m1 i o' e
      refine ⟨a, by simp only [AS.pend]; rw [if_neg q]; exact b, B, by simp only; rw [if_neg q]; exact c, d, f, ?_⟩
      have e2 : (ca.tmps.setIfInBounds t v).getD i undef = ca.tmps.getD i undef := by
        rw [Array.getD_eq_getD_getElem?, Array.getElem?_setIfInBounds_ne (fun q' => q q'.symm), Array.getD_eq_getD_getElem?]
      simp only [Act.put, e2]
      exact g.go (.refl G) (heap_push_lt g.lt)
  · simp only [AS.pend] at a b
    simp only at e
    by_cases q : i = t <;> by_cases q' : j = t
    · omega
    · rw [if_pos q, if_neg q'] at e
      rw [if_neg q'] at b
      obtain ⟨B, c, d⟩ := hM j b
      rw [c] at e; cases e; omega
    · rw [if_neg q, if_pos q'] at e
      rw [if_neg q] at a
      obtain ⟨B, c, d⟩ := hM i a
      rw [c] at e; cases e; omega
    · rw [if_neg q, if_neg q'] at e
      rw [if_neg q] at a; rw [if_neg q'] at b
      exact m2 i j a b e
  · simp only [AS.pend] at a b
    obtain ⟨cs, hcs⟩ := Option.ne_none_iff_exists'.1 b
    obtain ⟨B, _, _, p1, _, _, p4, _⟩ := h.locs l cs hcs
    have hB : B < w.heap.size := (Array.getElem?_eq_some_iff.1 p4).1
    by_cases q : i = t
    · simp only; rw [if_pos q, p1]
      intro z; cases z; omega
    · rw [if_neg q] at a
      simp only; rw [if_neg q]
      exact m3 i l a b

/-- The abstract heap takes the block up. -/
theorem Rel.pub (h : Rel W0 G0 w0 N G L st H ca w) {t : Nat} {o : PObj} (ho : st.pnd t = some o) : ∃ G', Rel W0 G0 w0 N G' L (st.pub t o H.length) (H ++ [o.obj]) ca w := by
  obtain ⟨M, m1, m2, m3⟩ := h.pnds
  obtain ⟨htN, hany, B, hM, hw0, hsz, hp⟩ := m1 t o ho
  have hW : W0.heap.size ≤ B := Nat.le_trans h.bw hw0
  have hlt := hp.lt
  have key : ∃ n, HInv W0 (H ++ [o.obj]) (G.addB H.length B n) w ∧ VRel (G.addB H.length B n) (o.av H.length) (ca.tmps.getD t undef) := by
    cases o with
    | cells cs =>
      obtain ⟨e, vs, ty, h1, h2, h3⟩ := hp
      refine ⟨vs.size, h.inv.adopt hsz hW hlt _ _ (by simp [PObj.obj]) ⟨B, vs, ty, (0, 0), by simp [Ghost.addB], h1, by simp [Ghost.addB], by simp, by have := h2.1; simp at this; omega, fun j hj => ⟨?_, ?_⟩⟩, ?_⟩
      · rw [List.getD_eq_getElem?_getD, List.getElem?_eq_getElem hj]
        exact h3 _ (List.getElem_mem hj)
      · exact (h2.2 j hj).mono (h.inv.adopt_le hsz _)
      · rw [e]; exact .ref _ _ _ (by simp [Ghost.addB])
    | map =>
      obtain ⟨e, h1⟩ := hp
      refine ⟨0, h.inv.adopt hsz hW hlt _ _ (by simp [PObj.obj]) ⟨B, #[], by simp [Ghost.addB], h1, rfl, fun j hj => by simp at hj⟩, ?_⟩
      rw [e]; exact .map _ _ (by simp [Ghost.addB])
    | arr k cap esz cs =>
      obtain ⟨e, hc, hx, vs, ty, h1, h2, h3, h4⟩ := hp
      refine ⟨vs.size, h.inv.adopt hsz hW hlt _ _ (by simp [PObj.obj]) ⟨B, vs, ty, (0, 0), by simp [Ghost.addB], h1, by simp [Ghost.addB], by simp, by have := h2.1; simp at this; omega, fun j hj => ⟨?_, ?_⟩⟩, ?_⟩
      · rw [List.getD_eq_getElem?_getD, List.getElem?_eq_getElem hj]
        exact h3 _ (List.getElem_mem hj)
      · exact (h2.2 j hj).mono (h.inv.adopt_le hsz _)
      · rw [e]
        have := VRel.arr (G := G.addB H.length B vs.size) H.length 0 k esz B cap vs.size (by simp [Ghost.addB]) hc hx (by simp [Ghost.addB]) (by simpa using h4)
        simpa [PObj.av] using this
  obtain ⟨n, hi, hv⟩ := key
  have hle := h.inv.adopt_le hsz n
  have hne : ∀ C, G.sz C = none → C ≠ B → (G.addB H.length B n).sz C = none := fun C e q => by
    simp only [Ghost.addB]; rw [if_neg q]; exact e
  refine ⟨G.addB H.length B n, { bw := h.bw, next := ⟨h.next.le.trans hle, h.next.size, h.next.keep, fun C m e => ?_⟩, inv := hi, defers := ?_, size := h.size, slots := fun i hi2 => ?_, locs := fun l cs e => ?_, linj := h.linj, lrefs := fun i j off hi2 e => ?_, pnds := ?_ }⟩
  · simp only [Ghost.addB] at e
    split at e
    · subst C; exact .inr hw0
    · exact h.next.fresh C m e
  · obtain ⟨Ds, d1, d2, d3⟩ := h.defers
    refine ⟨Ds, d1, d2, fun D hD => ?_⟩
    obtain ⟨a, b, c⟩ := d3 D hD
    refine ⟨a, hne D b (fun e => ?_), c⟩
    subst e
    cases o with
    | cells cs => obtain ⟨_, vs, ty, g2, _⟩ := hp; rw [c] at g2; cases g2
    | map => have g2 := hp.2; rw [c] at g2; cases g2
    | arr n cap esz cs => obtain ⟨_, _, _, vs, ty, g2, _⟩ := hp; rw [c] at g2; cases g2
  · simp only [AS.pub]
    by_cases q : i = t
    · rw [if_pos q, q]; exact .inr hv
    · rw [if_neg q]
      rcases h.slots i hi2 with z | z
      · exact .inl z
      · exact .inr (z.mono hle)
  · obtain ⟨C, vs, ty, p1, p2, p3, p4, p5, p6⟩ := h.locs l cs e
    have : C ≠ B := by
      rintro rfl
      exact m3 t l (by rw [ho]; simp) (by rw [show st.loc l = some cs from e]; simp) (by rw [hM, p1])
    exact ⟨C, vs, ty, p1, p2, hne C p3 this, p4, p5.mono hle, p6⟩
  · simp only [AS.pub] at e
    by_cases q : i = t
    · rw [if_pos q] at e; cases o <;> simp [PObj.av] at e
    · rw [if_neg q] at e; exact h.lrefs i j off hi2 e
  · have kk : ∀ i o', (st.pub t o H.length).pnd i = some o' → i ≠ t ∧ st.pnd i = some o' := fun i o' e => by
      simp only [AS.pub] at e
      split at e
      · cases e
      · exact ⟨by assumption, e⟩
    have kn : ∀ i, (st.pub t o H.length).pnd i ≠ none → st.pnd i ≠ none := fun i e => by
      obtain ⟨o', ho'⟩ := Option.ne_none_iff_exists'.1 e
      rw [(kk i o' ho').2]; simp
    refine ⟨M, fun i o' e => ?_, fun i j a b => m2 i j (kn i a) (kn j b), fun i l a b => m3 i l (kn i a) b⟩
    obtain ⟨q, e⟩ := kk i o' e
    obtain ⟨a, b, C, c, d, f, g⟩ := m1 i o' e
    refine ⟨a, by simp only [AS.pub]; rw [if_neg q]; exact b, C, c, d, hne C f (fun z => ?_), g.go hle rfl⟩
    exact q (m2 i t (by rw [e]; simp) (by rw [ho]; simp) (by rw [c, hM, z]))
end
end Go.Qa
