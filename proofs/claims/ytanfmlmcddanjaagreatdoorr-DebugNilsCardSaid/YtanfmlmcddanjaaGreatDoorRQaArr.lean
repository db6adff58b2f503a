/- The abstract machine: slices of boxes that grow; slices that are made; copies. -/
import Derived.Test.YtanfmlmcddanjaaGreatDoorRQaAppend
import Derived.Laws.MakeOwn
set_option linter.all false
namespace Go.Qa
open Go Go.RowKit
section
variable {W0 : World} {H : AHeap} {G G' : Ghost} {w w' : World}

/-- A box is given up, and another one lies in its block. -/
def Ghost.rebox (G : Ghost) (i B : Nat) : Ghost := { G with bx := fun j => if j = i then some B else G.bx j }
theorem HInv.rebox (h : HInv W0 H G w) (b B E : Nat) (cs cs' : List AV) (nvs : List Value) (vs : Array Value) (ty : TypeId) (fz : Nat × Nat) (hb : H[b]? = some (.cells cs)) (hB : G.bx b = some B)
    (hh : w.heap[B]? = some (.cells vs ty fz)) (hE : E + nvs.length ≤ vs.size) (hl : cs'.length ≤ vs.size) (hv : ∀ j, j < cs'.length → (cs'.getD j .any).one = true ∧ VRel G (cs'.getD j .any) ((over vs.toList E nvs).getD j undef)) :
    HInv W0 (H.set b AObj.dead ++ [.cells cs']) (G.rebox H.length B) (w.setCells B E nvs) ∧ Next G w (G.rebox H.length B) (w.setCells B E nvs) ∧ G.sz B = some vs.size := by
  obtain ⟨B', vs', ty', fz', hB', hh', hs, hfz, hle, hcv⟩ := h.obj b _ hb
  rw [hB] at hB'; cases hB'
  rw [hh] at hh'; cases hh'
  have hlb : H[b]? ≠ some AObj.dead := by rw [hb]; simp
  have hblen : b < H.length := (List.getElem?_eq_some_iff.1 hb).1
  have hnat : ∀ t n E', G.at_ t n ≠ some (B, E') := fun t n E' q => hlb ((h.ats t n B E' q).2.2 b hB)
  have hlen : (H.set b AObj.dead ++ [AObj.cells cs']).length = H.length + 1 := by simp
  have hlv : ∀ i, i < H.length → (H.set b AObj.dead ++ [AObj.cells cs'])[i]? ≠ some AObj.dead → i ≠ b ∧ H[i]? ≠ some AObj.dead := fun i hi z => by
    have z2 := live_append (l := [AObj.cells cs']) (H := H.set b AObj.dead) (i := i) (by simpa using hi) z
    by_cases e : b = i
    · subst e; rw [List.getElem?_set_self hblen] at z2; exact absurd rfl z2
    · rw [List.getElem?_set_ne e] at z2; exact ⟨fun q => e q.symm, z2⟩
  have hdd : ∀ i, H[i]? = some AObj.dead → (H.set b AObj.dead ++ [AObj.cells cs'])[i]? = some AObj.dead := fun i z => dead_append (dead_set hb (by simp) z)
  have hle' : G.le (G.rebox H.length B) := by
    refine ⟨fun i C e => ?_, fun _ _ _ e => e, fun _ _ _ e => e, fun _ _ e => e, fun _ _ _ e => .inl e⟩
    have := (h.bxs i C e).1
    simp only [Ghost.rebox]; rw [if_neg (by omega)]; exact e
  have hwB : (w.setCells B E nvs).heap[B]? = some (.cells (over vs.toList E nvs).toArray ty fz) :=
    heap_setCells_at B ty fz nvs E w vs.toList (by simpa using hh) (by simpa using hE)
  have hwne : ∀ C, C ≠ B → (w.setCells B E nvs).heap[C]? = w.heap[C]? := fun C q => heap_setCells_ne B nvs E w C q
  refine ⟨?_, ?_, hs⟩
  · refine { base := Below.setCells B (h.lt B _ hs).1 nvs E w h.base, lt := fun C n e => by rw [size_setCells]; exact h.lt C n e, imm := fun C p v e => ?_, bxs := fun i C e => ?_, inj := fun i j C hi hj li lj => ?_, ats := fun t k C E' e => ?_, obj := fun i x e => ?_, cur := ?_ }
    · obtain ⟨q, r⟩ := h.imm C p v e
      refine ⟨q, ?_⟩
      have : C ≠ B := by
        rintro rfl
        have e' : G.imm C p = some v := e
        rw [(h.bxs b _ hB).2.2 hlb p] at e'; cases e'
      exact (cell_of_heap (hwne C this) p).trans r
    · rw [hlen]
      simp only [Ghost.rebox] at e
      split at e
      · cases e
        exact ⟨by omega, by simp [Ghost.rebox, hs], fun _ => (h.bxs b B hB).2.2 hlb⟩
      · obtain ⟨q1, q2, q3⟩ := h.bxs i C e
        exact ⟨by omega, q2, fun z => q3 (hlv i q1 z).2⟩
    · simp only [Ghost.rebox] at hi hj
      split at hi <;> split at hj
      · omega
      · cases hi
        have hjl := (h.bxs j B hj).1
        obtain ⟨z1, z2⟩ := hlv j hjl lj
        exact absurd (h.inj j b B hj hB z2 hlb) z1
      · cases hj
        have hil := (h.bxs i B hi).1
        obtain ⟨z1, z2⟩ := hlv i hil li
        exact absurd (h.inj i b B hi hB z2 hlb) z1
      · exact h.inj i j C hi hj (hlv i (h.bxs i C hi).1 li).2 (hlv j (h.bxs j C hj).1 lj).2
    · rw [hlen]
      obtain ⟨q1, q2, q3⟩ := h.ats t k C E' e
      refine ⟨by omega, q2, fun i z => ?_⟩
      simp only [Ghost.rebox] at z
      split at z
      · cases z; exact absurd e (hnat _ _ _)
      · exact hdd i (q3 i z)
    · rcases Nat.lt_or_ge i H.length with hlt | hge
      · rw [List.getElem?_append_left (by simpa using hlt)] at e
        by_cases hi : b = i
        · subst hi
          rw [List.getElem?_set_self hblen] at e
          cases e; exact trivial
        · rw [List.getElem?_set_ne hi] at e
          have ho := h.obj i x e
          have hne : x ≠ AObj.dead → ∀ C, G.bx i = some C → C ≠ B := fun hx C hC q => hi (h.inj b i B hB (q ▸ hC) hlb (by rw [e]; simpa using hx))
          cases x with
          | cells cs2 =>
            obtain ⟨C, vs2, ty2, fz2, p1, p2, p3, p4, p5, p6⟩ := ho
            exact ⟨C, vs2, ty2, fz2, hle'.bx _ _ p1, (hwne C (hne (by simp) C p1)).trans p2, p3, p4, p5, fun j hj => ⟨(p6 j hj).1, (p6 j hj).2.mono hle'⟩⟩
          | row n =>
            obtain ⟨C, E', vs2, ty2, fz2, p1, p2, p3⟩ := ho
            exact ⟨C, E', vs2, ty2, fz2, p1, (hwne C (fun q => hnat _ _ _ (q ▸ p1))).trans p2, p3⟩
          | map es clock =>
            obtain ⟨C, ms, p1, p2, p3, p4⟩ := ho
            refine ⟨C, ms, hle'.bx _ _ p1, (hwne C (hne (by simp) C p1)).trans p2, p3, fun j hj => ?_⟩
            obtain ⟨a, b, c, d, f, g, i⟩ := p4 j hj
            exact ⟨a, b, c, d, f.mono hle', g.mono hle', i⟩
          | iter m since seen stepped =>
            obtain ⟨C, p1, mB, p2, p3⟩ := ho
            refine ⟨C, hle'.bx _ _ p1, mB, (hwne C (hne (by simp) C p1)).trans p2, ?_⟩
            cases m with
            | none => exact p3
            | some j =>
              obtain ⟨D, hD, e⟩ := p3
              exact ⟨D, hle'.bx _ _ hD, e⟩
          | siter s pos =>
            obtain ⟨C, p1, p2⟩ := ho
            exact ⟨C, hle'.bx _ _ p1, (hwne C (hne (by simp) C p1)).trans p2⟩
          | loop busy ss ps asg body pend =>
            obtain ⟨C, r, p1, p2, p3, p4, p5, p6, p7, p8⟩ := ho
            exact ⟨C, r, hle'.bx _ _ p1, (hwne C (hne (by simp) C p1)).trans p2, p3, p4, p5, p6, p7, p8.mono hle'⟩
          | dead => exact trivial
      · rw [List.getElem?_append_right (by simpa using hge)] at e
        have : i = H.length := by
          have := (List.getElem?_eq_some_iff.1 e).1
          simp at this; omega
        subst this
        simp at e
        subst e
        refine ⟨B, (over vs.toList E nvs).toArray, ty, fz, by simp [Ghost.rebox], hwB, ?_, fun o ho => hfz o ?_, ?_, fun j hj => ?_⟩
        · show G.sz B = _
          rw [hs]; simp; rw [over_length (by simpa using hE)]; simp
        · simp at ho; rw [over_length (by simpa using hE)] at ho; simpa using ho
        · simp; rw [over_length (by simpa using hE)]; simpa using hl
        · obtain ⟨q1, q2⟩ := hv j hj
          exact ⟨q1, by simpa using q2.mono hle'⟩
    · have key : ∀ (t k : Nat), (H.set b AObj.dead ++ [AObj.cells cs'])[t]? = some (AObj.row k) → H[t]? = some (AObj.row k) := by
        intro t k e
        rcases Nat.lt_or_ge t H.length with hlt | hge
        · rw [List.getElem?_append_left (by simpa using hlt)] at e
          by_cases q : b = t
          · subst q; rw [List.getElem?_set_self hblen] at e; cases e
          · rwa [List.getElem?_set_ne q] at e
        · rw [List.getElem?_append_right (by simpa using hge)] at e
          have : t - (H.set b AObj.dead).length = 0 := by
            have := (List.getElem?_eq_some_iff.1 e).1
            simp at this; simp; omega
          rw [this] at e; simp at e
      intro t t' k k' C E1 E2 e e' a a'
      exact h.cur t t' k k' C E1 E2 (key t k e) (key t' k' e') a a'
  · have := (Next.refl G w).setCells B vs.size E nvs hs
    exact ⟨hle', this.size, this.keep, this.fresh⟩

/-- An object is let go. -/
theorem HInv.killAny (h : HInv W0 H G w) (t : Nat) {x : AObj} (ht : H[t]? = some x) (hx : x ≠ AObj.dead) : HInv W0 (H.set t AObj.dead) G w := by
  have htl : t < H.length := (List.getElem?_eq_some_iff.1 ht).1
  have key : ∀ (i k : Nat), (H.set t AObj.dead)[i]? = some (AObj.row k) → H[i]? = some (AObj.row k) := by
    intro i k e
    by_cases q : t = i
    · subst q; rw [List.getElem?_set_self htl] at e; cases e
    · rwa [List.getElem?_set_ne q] at e
  refine { base := h.base, lt := h.lt, imm := h.imm, bxs := fun i B e => by rw [List.length_set]; exact ⟨(h.bxs i B e).1, (h.bxs i B e).2.1, fun z => (h.bxs i B e).2.2 (live_set ht hx z)⟩, inj := fun i j B hi hj li lj => h.inj i j B hi hj (live_set ht hx li) (live_set ht hx lj), ats := fun a b c d e => by rw [List.length_set]; exact ⟨(h.ats a b c d e).1, (h.ats a b c d e).2.1, fun i z => dead_set ht hx ((h.ats a b c d e).2.2 i z)⟩, obj := fun i o e => ?_, cur := fun a b c d e f g h1 h2 h3 h4 => h.cur a b c d e f g (key _ _ h1) (key _ _ h2) h3 h4 }
  by_cases q : t = i
  · subst q; rw [List.getElem?_set_self htl] at e; cases e; exact trivial
  · rw [List.getElem?_set_ne q] at e; exact h.obj i o e

/-- A box that is never written again is a row. -/
def Ghost.froze (G : Ghost) (w : World) (B : Nat) : Ghost := { G with imm := fun C o => if C = B then w.cell? ⟨B, o, none⟩ else G.imm C o }
theorem HInv.freeze (h : HInv W0 H G w) (b B : Nat) (cs : List AV) (hb : H[b]? = some (.cells cs)) (hB : G.bx b = some B) :
    G.le (G.froze w B) ∧ HInv W0 (H.set b AObj.dead) (G.froze w B) w := by
  have hlb : H[b]? ≠ some AObj.dead := by rw [hb]; simp
  have hblen : b < H.length := (List.getElem?_eq_some_iff.1 hb).1
  have hnat : ∀ t n E', G.at_ t n ≠ some (B, E') := fun t n E' q => hlb ((h.ats t n B E' q).2.2 b hB)
  have hlv : ∀ i, (H.set b AObj.dead)[i]? ≠ some AObj.dead → i ≠ b ∧ H[i]? ≠ some AObj.dead := fun i z => by
    by_cases e : b = i
    · subst e; rw [List.getElem?_set_self hblen] at z; exact absurd rfl z
    · rw [List.getElem?_set_ne e] at z; exact ⟨fun q => e q.symm, z⟩
  have hle : G.le (G.froze w B) := by
    refine ⟨fun _ _ e => e, fun C o v e => ?_, fun _ _ _ e => e, fun _ _ e => e, fun C o v e => ?_⟩
    rotate_left
    · simp only [Ghost.froze] at e
      split at e
      · rename_i q; subst q; exact .inr (h.bxs b _ hB).2.1
      · exact .inl e
    have : C ≠ B := by rintro rfl; rw [(h.bxs b _ hB).2.2 hlb o] at e; cases e
    simp only [Ghost.froze]; rw [if_neg this]; exact e
  refine ⟨hle, { base := h.base, lt := h.lt, imm := fun C p v e => ?_, bxs := fun i C e => ?_, inj := fun i j C hi hj li lj => h.inj i j C hi hj (hlv i li).2 (hlv j lj).2, ats := fun t k C E' e => ?_, obj := fun i x e => ?_, cur := ?_ }⟩
  · simp only [Ghost.froze] at e
    split at e
    · rename_i q; subst q; exact ⟨.inl (h.bxs b _ hB).2.1, e⟩
    · exact h.imm C p v e
  · rw [List.length_set]
    obtain ⟨q1, q2, q3⟩ := h.bxs i C e
    refine ⟨q1, q2, fun z o => ?_⟩
    obtain ⟨z1, z2⟩ := hlv i z
    have : C ≠ B := by rintro rfl; exact z1 (h.inj i b _ e hB z2 hlb)
    simp only [Ghost.froze]; rw [if_neg this]; exact q3 z2 o
  · rw [List.length_set]
    obtain ⟨q1, q2, q3⟩ := h.ats t k C E' e
    exact ⟨q1, q2, fun i z => dead_set hb (by simp) (q3 i z)⟩
  · by_cases hi : b = i
    · subst hi
      rw [List.getElem?_set_self hblen] at e
      cases e; exact trivial
    · rw [List.getElem?_set_ne hi] at e
      have ho := h.obj i x e
      cases x with
      | cells cs2 =>
        obtain ⟨C, vs2, ty2, fz2, p1, p2, p3, p4, p5, p6⟩ := ho
        exact ⟨C, vs2, ty2, fz2, p1, p2, p3, p4, p5, fun j hj => ⟨(p6 j hj).1, (p6 j hj).2.mono hle⟩⟩
      | row n =>
        obtain ⟨C, E', vs2, ty2, fz2, p1, p2, p3, p4, p5, p6⟩ := ho
        refine ⟨C, E', vs2, ty2, fz2, p1, p2, p3, p4, fun o ho => ?_, p6⟩
        have : C ≠ B := fun q => hnat _ _ _ (q ▸ p1)
        simp only [Ghost.froze]; rw [if_neg this]; exact p5 o ho
      | map es clock =>
        obtain ⟨C, ms, p1, p2, p3, p4⟩ := ho
        refine ⟨C, ms, p1, p2, p3, fun j hj => ?_⟩
        obtain ⟨a, b, c, d, f, g, i⟩ := p4 j hj
        exact ⟨a, b, c, d, f.mono hle, g.mono hle, i⟩
      | iter m since seen stepped => exact ho
      | siter s pos => exact ho
      | loop busy ss ps asg body pend =>
        obtain ⟨C, r, p1, p2, p3, p4, p5, p6, p7, p8⟩ := ho
        exact ⟨C, r, p1, p2, p3, p4, p5, p6, p7, p8.mono hle⟩
      | dead => exact trivial
  · have key : ∀ (t k : Nat), (H.set b AObj.dead)[t]? = some (AObj.row k) → H[t]? = some (AObj.row k) := by
      intro t k e
      by_cases q : b = t
      · subst q; rw [List.getElem?_set_self hblen] at e; cases e
      · rwa [List.getElem?_set_ne q] at e
    intro t t' k k' C E1 E2 e e' a a'
    exact h.cur t t' k k' C E1 E2 (key t k e) (key t' k' e') a a'
end

/-! ### Append to a box's slice -/
def appendArr (esz bytes : Nat) (x : AV) (ys : List AV) (d : Option Nat) (K : AS → AHeap → Prop) (st : AS) (H : AHeap) : Prop :=
  (ys = [] → x.isSlice = true ∧ K (st.set d x) H) ∧ (ys ≠ [] → match x with
    | .pl (.slice none 0 0) => ys.length * bytes ≤ roomMax ∧ K (st.set d (.arr H.length 0 ys.length esz)) (H ++ [.cells (flat ys)])
    | .row own full sz es => sz = esz ∧ full = true ∧ (es.length + ys.length) * bytes ≤ roomMax ∧ K (st.set d (.arr H.length 0 (es.length + ys.length) esz)) (H ++ [.cells (flat es ++ flat ys)])
    | .arr b start len sz => sz = esz ∧ start = 0 ∧ (len + ys.length) * bytes ≤ roomMax ∧ match H[b]? with
      | some (.cells cs) => len * esz ≤ cs.length ∧ K (st.set d (.arr H.length 0 (len + ys.length) esz)) (H.set b AObj.dead ++ [.cells (cs.take (len * esz) ++ flat ys)])
      | _ => False
    | _ => False)

section
variable {W0 : World} {G0 : Ghost} {w0 : World} {N : Nat} {G G' : Ghost} {L : Nat → Option Nat} {st : AS} {H H' : AHeap} {ca : Act} {w w' : World} {P : Program}
variable {o : Oper} {K : AS → AHeap → Prop} {Q : Exit → Act → World → Prop}

theorem append_newA (h : Rel W0 G0 w0 N G L st H ca w) {t tx ty e : TypeId} {i : TypeInfo} {z : Value} (ht : P.underlying t = some (.slice e)) (hi : P.info? e = some i) (hz : i.zero = some z) (hzs : z.cells.size = i.size) (hb : 0 < i.bytes)
    {base : Option Addr} {sLen sCap : Nat} {oc ys : List AV} {olds news : List Value} {x : Value} (hold : (Builtin.firstCells i.size sLen (.slice base sLen sCap)).run P w.drew = .ok olds.toArray w.drew) (ho : VRels G oc olds) (hoc : ∀ c ∈ oc, c.one = true) (hol : oc.length = sLen * i.size)
    (hs : Src P i.size tx x ys.length news w) (hn : VRels G (flat ys) news) (hys : ∀ y ∈ ys, y.isSize i.size = true) (hg : sCap < sLen + ys.length) (hroom : (sLen + ys.length) * i.bytes ≤ roomMax)
    (hop : execOp ca.eval o = (do pure (.value (← Builtin.append_ #[t, tx] ty #[.slice base sLen sCap, x])))) (k : K (st.set o.dst (.arr H.length 0 (sLen + ys.length) i.size)) (H ++ [.cells (oc ++ flat ys)])) :
    o.wp P ca w (Post W0 G0 w0 N K) Q := by
  have hle : sLen + ys.length ≤ roomMax := Nat.le_trans (Nat.le_mul_of_pos_right _ hb) hroom
  unfold roomMax at hle hroom
  have run := run_append_grow_src (P := P) w t tx ty e i z ht hi hz base sLen sCap olds hold x ys.length news hs hg (by omega) (growslice_fits hg hroom)
  have hcap := grownCap_bound w (sLen + ys.length) sCap e (by omega)
  have hrels : VRels G (oc ++ flat ys) (olds ++ news) := VRels.append ho hn
  have hnl : news.length = ys.length * i.size := by rw [hn.1, flat_length hys]
  have hol2 : olds.length = sLen * i.size := by rw [ho.1, hol]
  have hzl : (Builtin.zeroCells z.cells (grownCap w (sLen + ys.length) sCap e - (sLen + ys.length))).size = (grownCap w (sLen + ys.length) sCap e - (sLen + ys.length)) * i.size := by
    rw [size_zeroCells, hzs]
  have hone : ∀ c ∈ oc ++ flat ys, c.one = true := fun c hc => (List.mem_append.1 hc).elim (hoc c) (flat_ones c)
  have hsize : ((olds ++ news).toArray ++ Builtin.zeroCells z.cells (grownCap w (sLen + ys.length) sCap e - (sLen + ys.length))).size = grownCap w (sLen + ys.length) sCap e * i.size := by
    rw [Array.size_append, hzl]
    simp only [List.size_toArray, List.length_append, hnl, hol2]
    rw [← Nat.add_mul, ← Nat.add_mul]
    congr 1; omega
  obtain ⟨G', hnx, hiv, hbx, hsz⟩ := h.inv.drew.newBoxRoom (oc ++ flat ys) ((olds ++ news).toArray ++ Builtin.zeroCells z.cells (grownCap w (sLen + ys.length) sCap e - (sLen + ys.length))) e (0, 0) (fun o _ => by simp)
    (by rw [← hrels.1]; simp) (fun j hj => by
      have hj2 : j < (olds ++ news).length := by rw [hrels.1]; exact hj
      have e5 : ((olds ++ news).toArray ++ Builtin.zeroCells z.cells (grownCap w (sLen + ys.length) sCap e - (sLen + ys.length))).toList.getD j undef = (olds ++ news).getD j undef := by
        rw [Array.toList_append, List.getD_eq_getElem?_getD, List.getElem?_append_left (by simpa using hj2), List.getD_eq_getElem?_getD]
      rw [e5]
      exact hrels.2 j hj) hone
  have hsd : w.drew.heap.size = w.heap.size := rfl
  rw [hsd] at hbx hsz
  have harr : VRel G' (.arr H.length 0 (sLen + ys.length) i.size) (.slice (some ⟨w.heap.size, 0, none⟩) (sLen + ys.length) (grownCap w (sLen + ys.length) sCap e)) := by
    have := VRel.arr (G := G') H.length 0 (sLen + ys.length) i.size w.heap.size (grownCap w (sLen + ys.length) sCap e) _ hbx hcap.1 hcap.2 hsz (by rw [hsize]; simp)
    simpa using this
  refine wp_value0 (by rw [hop]; simp only [Sem.run_bind, run, Result.andThen_ok, Sem.run_pure]; rfl) ?_
  exact ⟨_, _, k, _, _, (h.drew.step hnx hiv).set o.dst (.of harr) (by simp)⟩

set_option maxHeartbeats 1600000 in
theorem appendA_sound (h : Rel W0 G0 w0 N G L st H ca w) {t tx e : TypeId} {i : TypeInfo} {z : Value} (ht : P.underlying t = some (.slice e)) (hi : P.info? e = some i) (hz : i.zero = some z) (hzs : z.cells.size = i.size) (hb : 0 < i.bytes)
    {s x : Operand} {s' x' : Opd} (hs' : cOpd N s = some s') (hx' : cOpd N x = some x') (hop : execOp ca.eval o = (do pure (.value (← Builtin.append_ #[t, tx] o.type #[ca.eval s, ca.eval x]))))
    {ys : List AV} {news : List Value} (hys : ∀ y ∈ ys, y.isSize i.size = true) (hn : VRels G (flat ys) news) (hs : Src P i.size tx (ca.eval x) ys.length news w) (k : appendArr i.size i.bytes (st.ev s') ys o.dst K st H) : o.wp P ca w (Post W0 G0 w0 N K) Q := by
  have h1 := h.opd hs'
  obtain ⟨k0, k1⟩ := k
  by_cases hy0 : ys = []
  · exact append_sound h ht hi hz hzs hb hs' hx' hop hys hn hs ⟨k0, fun q => absurd hy0 q⟩
  have k1 := k1 hy0
  have hpos : 0 < ys.length := List.length_pos_iff.2 hy0
  generalize hvs : ca.eval s = vs at *
  generalize st.ev s' = a at *
  split at k1
  · have e9 := h1.pl
    subst e9
    exact append_newA (oc := []) (base := none) (sLen := 0) (sCap := 0) (olds := []) h ht hi hz hzs hb (by simp [Builtin.firstCells]) (.nil G) (by simp) (by simp) hs hn hys (by omega) (by simpa using k1.1) hop (by simpa using k1.2)
  · rename_i own full sz es _
    obtain ⟨rfl, rfl, hroom, k1⟩ := k1
    have hr := h1.rel (by simp)
    have hsizes := row_sizes hr
    obtain ⟨a, cap, rfl⟩ : ∃ a cap, vs = .slice (some a) es.length cap := by cases hr; exact ⟨_, _, rfl⟩
    obtain ⟨_, hsp, us, hus, him⟩ := row_cells hr
    have hcap : cap = es.length := by
      cases hr with
      | row _ _ _ _ _ _ cv hs he hm hv hc hx hf ho => exact hf rfl
    have hold : (Builtin.firstCells i.size es.length (.slice (some a) es.length cap)).run P w.drew = .ok us.toArray w.drew := by
      refine run_firstCells_some w.drew i.size es.length a es.length cap us (by rw [hus.1, flat_length hsizes]) (fun j u hj => ?_)
      have hlt : j < us.length := (List.getElem?_eq_some_iff.1 hj).1
      rw [hus.1, flat_length hsizes] at hlt
      have hp : 0 < es.length := by
        rcases Nat.eq_zero_or_pos es.length with q | q
        · rw [q] at hlt; simp at hlt
        · exact q
      have e3 : a = ⟨a.block, a.off, none⟩ := by
        have := hsp hp
        cases a; simp_all
      rw [e3, add_plain]
      exact (h.inv.imm _ _ _ (him j u hj)).2
    exact append_newA (oc := flat es) h ht hi hz hzs hb hold hus flat_ones (by rw [flat_length hsizes]) hs hn hys (by omega) hroom hop k1
  · rename_i b start len sz _
    obtain ⟨rfl, rfl, hroom, k1⟩ := k1
    split at k1
    · rename_i cs hbb
      obtain ⟨hlen, k1⟩ := k1
      have hr := h1.rel (by simp)
      cases hr with
      | arr _ _ _ _ B cap sz hB hc hx hsz hzz =>
        obtain ⟨B', vs, ty, fz, hB', hh, hs2, hfz, hle, hcv⟩ := h.inv.obj b _ hbb
        rw [hB] at hB'; cases hB'
        rw [hs2] at hsz; cases hsz
        simp only [Nat.zero_add, Nat.zero_mul] at hzz hop ⊢
        have htl : (cs.take (len * i.size)).length = len * i.size := by simp; omega
        have hocr : VRels G (cs.take (len * i.size)) (vs.toList.take (len * i.size)) := by
          refine ⟨by simp; omega, fun j hj => ?_⟩
          rw [htl] at hj
          rw [getD_take _ _ _ _ hj, getD_take _ _ _ _ hj]
          exact (hcv _ (by omega)).2
        have hoc1 : ∀ c ∈ cs.take (len * i.size), c.one = true := by
          intro c hcm
          obtain ⟨j, hj, rfl⟩ := List.getElem_of_mem hcm
          simp at hj
          have := (hcv j (by omega)).1
          rw [List.getD_eq_getElem?_getD, List.getElem?_eq_getElem (by omega)] at this
          simpa using this
        have hnl : news.length = ys.length * i.size := by rw [hn.1, flat_length hys]
        by_cases hfit : len + ys.length ≤ cap
        · have hmul : (len + ys.length) * i.size ≤ cap * i.size := Nat.mul_le_mul_right _ hfit
          have hmul2 := hmul
          rw [Nat.add_mul] at hmul2
          have run := run_append_room_src (P := P) w t tx o.type e i ht hi B 0 len cap (ca.eval x) ys.length news hs hfit
            (fun j hj => by simp only [World.cell?, hh]; simp; omega) (fun j hj => by
              have := hfz (0 + len * i.size + j) (by omega)
              simp only [World.frozen?, hh]
              simpa using this)
          simp only [Nat.zero_add] at run
          have hov : ∀ j, j < (cs.take (len * i.size) ++ flat ys).length → ((cs.take (len * i.size) ++ flat ys).getD j .any).one = true ∧ VRel G ((cs.take (len * i.size) ++ flat ys).getD j .any) ((over vs.toList (len * i.size) news).getD j undef) := by
            intro j hj
            have hone : ∀ c ∈ cs.take (len * i.size) ++ flat ys, c.one = true := fun c hc => (List.mem_append.1 hc).elim (hoc1 c) (flat_ones c)
            refine ⟨?_, ?_⟩
            · rw [List.getD_eq_getElem?_getD, List.getElem?_eq_getElem hj]
              exact hone _ (List.getElem_mem hj)
            · rw [over_getD (by simp; omega), List.getD_eq_getElem?_getD, List.getElem?_append, htl]
              rw [List.length_append, htl, flat_length hys] at hj
              by_cases q : j < len * i.size
              · rw [if_pos q, if_neg (by omega)]
                have := hocr.2 j (by rw [htl]; exact q)
                rw [getD_take _ _ _ _ q, getD_take _ _ _ _ q] at this
                rw [List.getElem?_take_of_lt q, ← List.getD_eq_getElem?_getD]
                exact this
              · rw [if_neg q, if_pos (by omega), ← List.getD_eq_getElem?_getD]
                exact hn.2 _ (by rw [flat_length hys]; omega)
          obtain ⟨hiv, hnx, _⟩ := h.inv.rebox b B (len * i.size) cs (cs.take (len * i.size) ++ flat ys) news vs ty fz hbb hB hh (by omega) (by rw [List.length_append, htl, flat_length hys]; omega) hov
          have harr : VRel (G.rebox H.length B) (.arr H.length 0 (len + ys.length) i.size) (.slice (some ⟨B, 0, none⟩) (len + ys.length) cap) := by
            have := VRel.arr (G := G.rebox H.length B) H.length 0 (len + ys.length) i.size B cap vs.size (by simp [Ghost.rebox]) hfit hx hs2 (by simpa using hzz)
            simpa using this
          refine wp_value0 (by rw [hop]; simp only [Sem.run_bind, run, Result.andThen_ok, Sem.run_pure]; rfl) ?_
          exact ⟨_, _, k1, _, _, (h.step hnx hiv).set o.dst (.of harr) (by simp)⟩
        · have hk := h.inv.killAny b hbb (by simp)
          have h' : Rel W0 G0 w0 N G L st (H.set b AObj.dead) ca w := h.step (Next.refl G w) hk
          have hold : (Builtin.firstCells i.size len (.slice (some ⟨B, 0, none⟩) len cap)).run P w.drew = .ok (vs.toList.take (len * i.size)).toArray w.drew := by
            refine run_firstCells_some w.drew i.size len ⟨B, 0, none⟩ len cap (vs.toList.take (len * i.size)) (by simp; omega) (fun j u hj => ?_)
            have hlt := (List.getElem?_eq_some_iff.1 hj).1
            simp at hlt
            rw [List.getElem?_take_of_lt (by omega)] at hj
            rw [add_plain]
            show w.cell? _ = _
            simp only [World.cell?, hh]
            simpa using hj
          refine append_newA (H := H.set b AObj.dead) h' ht hi hz hzs hb hold hocr hoc1 htl hs hn hys (by omega) hroom hop ?_
          simpa using k1
    · exact k1.elim
  · exact k1.elim

/-! ### make -/
def made (zero : List AV) (n : Nat) : List AV := (List.range n).map fun j => zero.getD (j % zero.length) .any
def mkslAV (esz bytes : Nat) (zero : List AV) (len cap : AV) (d : Option Nat) (K : AS → AHeap → Prop) (st : AS) (H : AHeap) : Prop :=
  match len, cap with
  | .int _ l, .int _ c => 0 ≤ l ∧ l ≤ c ∧ c.toNat * bytes ≤ roomMax ∧ c.toNat ≤ maxLen ∧ K (st.set d (.arr H.length 0 l.toNat esz)) (H ++ [.cells (made zero (c.toNat * esz))])
  | _, _ => False
theorem mksl_sound (h : Rel W0 G0 w0 N G L st H ca w) {t e : TypeId} {i : TypeInfo} {z : Value} {zc : List AV} (ht : P.underlying t = some (.slice e)) (hi : P.info? e = some i) (hz : i.zero = some z) (hzc : z.cells.toList.mapM AV.ofCell = some zc) (hzs : z.cells.size = i.size)
    {x y : Operand} {x' y' : Opd} (hx : cOpd N x = some x') (hy : cOpd N y = some y') (ho : o.op = .makeSlice t x y) (k : mkslAV i.size i.bytes zc (st.ev x') (st.ev y') o.dst K st H) : o.wp P ca w (Post W0 G0 w0 N K) Q := by
  have h1 := h.opd hx
  have h2 := h.opd hy
  generalize hvx : ca.eval x = vx at *
  generalize hvy : ca.eval y = vy at *
  unfold mkslAV at k
  split at k
  · rename_i kl l kc c e1 e2
    rw [e1] at h1
    rw [e2] at h2
    obtain ⟨k0, k1, k2, k3, k⟩ := k
    have hvx2 := h1.int
    have hvy2 := h2.int
    subst hvx2
    subst hvy2
    obtain ⟨hzr, hz1⟩ := mapM_cells (G := G) hzc
    have hzl : zc.length = i.size := by rw [← hzr.1]; simpa using hzs
    have hroomI : (i.bytes : Int) * c ≤ 140737488355328 := by
      unfold roomMax at k2
      have e9 : (i.bytes : Int) * c = ((c.toNat * i.bytes : Nat) : Int) := by rw [Int.natCast_mul, Int.toNat_of_nonneg (by omega), Int.mul_comm]
      rw [e9]; omega
    have run := run_make (P := P) w t e i z ht hi hz kl kc l c k0 k1 (by omega) (by unfold maxLen at k3; omega)
    have hnz : ∀ j, j < c.toNat * i.size → j % i.size < i.size := fun j hj => Nat.mod_lt _ (by
      rcases Nat.eq_zero_or_pos i.size with q | q
      · rw [q] at hj; simp at hj
      · exact q)
    have hrel : VRels G (made zc (c.toNat * i.size)) (madeCells z.cells (c.toNat * i.size)).toList := by
      refine ⟨by simp [made, madeCells], fun j hj => ?_⟩
      have hj2 : j < c.toNat * i.size := by simpa [made] using hj
      have := hzr.2 (j % i.size) (by rw [hzl]; exact hnz j hj2)
      rw [List.getD_eq_getElem?_getD (l := made zc _), List.getD_eq_getElem?_getD (l := Array.toList _)]
      simp only [made, madeCells, List.getElem?_map, List.getElem?_range hj2, Option.map_some, Option.getD_some, hzl, Array.toList_map, Array.toList_range, hzs]
      have e3 : z.cells[j % i.size]! = z.cells.toList.getD (j % i.size) undef := by
        have hlt : j % i.size < z.cells.size := by rw [hzs]; exact hnz j hj2
        rw [getElem!_pos z.cells _ hlt, List.getD_eq_getElem?_getD]
        simp [hlt]
      rw [e3]
      exact this
    have hone : ∀ c' ∈ made zc (c.toNat * i.size), c'.one = true := by
      intro c' hc'
      simp only [made, List.mem_map, List.mem_range] at hc'
      obtain ⟨j, hj, rfl⟩ := hc'
      have hlt : j % zc.length < zc.length := by rw [hzl]; exact hnz j hj
      rw [List.getD_eq_getElem?_getD, List.getElem?_eq_getElem hlt]
      exact hz1 _ (List.getElem_mem _)
    obtain ⟨G', hn, hiv, hbx, hsz⟩ := h.inv.newBox (made zc (c.toNat * i.size)) (madeCells z.cells (c.toNat * i.size)).toList e hrel hone
    rw [Array.toArray_toList] at hn hiv
    have harr : VRel G' (.arr H.length 0 l.toNat i.size) (.slice (some ⟨w.heap.size, 0, none⟩) l.toNat c.toNat) := by
      have := VRel.arr (G := G') H.length 0 l.toNat i.size w.heap.size c.toNat _ hbx (by omega) k3 hsz (by simp [madeCells])
      simpa using this
    refine wp_value0 (w' := w.alloc (.cells (madeCells z.cells (c.toNat * i.size)) e)) (v := .slice (some ⟨w.heap.size, 0, none⟩) l.toNat c.toNat) (by simp only [execOp, ho, hvx, hvy, Sem.run_bind, run, Result.andThen_ok, Sem.run_pure]) ?_
    exact ⟨_, _, k, _, _, (h.step hn hiv).set o.dst (.of harr) (by simp)⟩
  · exact k.elim

/-! ### Arrays -/
def aaddrAV (len esz : Nat) (x i : AV) : Option AV :=
  match i.asI with
  | some n => if 0 ≤ n ∧ n < len then offAV (n.toNat * esz) x else none
  | none => none
theorem aaddr_sound (h : Rel W0 G0 w0 N G L st H ca w) {t e : TypeId} {n : Nat} {i : TypeInfo} (ht : P.underlying t = some (.array n e)) (hi : P.info? e = some i) {x y : Operand} {x' y' : Opd} (hx : cOpd N x = some x') (hy : cOpd N y = some y')
    {r : AV} (hr : aaddrAV n i.size (st.ev x') (st.ev y') = some r) : Gives P G L st w (Instr.indexAt t (ca.eval x) (ca.eval y)) r := by
  have h1 := h.opd hx
  have h2 := h.opd hy
  have hl : ∀ t o, st.ev x' = .lref t o → st.loc t ≠ none := fun t o e => h.opd_loc hx e
  unfold aaddrAV at hr
  split at hr
  · rename_i m hm
    split at hr
    · rename_i hb
      obtain ⟨k, e2⟩ := asI_of h2 hm
      rw [e2]
      clear e2 h2 hm
      generalize st.ev x' = a at *
      generalize ca.eval x = vx at *
      have run : ∀ B o, (Instr.indexAt t (.pointer (some ⟨B, o, none⟩)) (.int k m)).run P w = .ok (.pointer (some ⟨B, o + m.toNat * i.size, none⟩)) w := fun B o => by
        simp [Instr.indexAt, asIntOf, run_underlying ht, Instr.sureAddr, hb.1, hb.2, sizeOf, typeInfo, hi, add_plain]
      cases a <;> simp [offAV] at hr
      · subst hr
        rename_i b o
        have := h1.rel (by simp)
        cases this with
        | ref _ _ B hB => exact .rel (run B o) (.ref _ _ _ hB)
      · obtain ⟨hle, rfl⟩ := hr
        have := h1.rel (by simp)
        cases this with
        | eref cs B o cv hm hv =>
          refine .rel (run B o) (.eref _ B (o + m.toNat * i.size) (fun j => cv (m.toNat * i.size + j)) (fun j hj => ?_) (fun j hj => ?_))
          · simp at hj
            rw [Nat.add_assoc]; exact hm _ (by omega)
          · simp at hj
            rw [getD_drop]; exact hv _ (by omega)
      · subst hr
        rename_i t o
        rcases h1 with ⟨t', o', B, e, hB, rfl⟩ | h1
        · cases e
          exact ⟨_, run B o, .inl ⟨t, o + m.toNat * i.size, B, rfl, hB, rfl⟩, fun i off e => by cases e; exact hl t o rfl⟩
        · cases h1
    · cases hr
  · cases hr

theorem buildA_sound (h : Rel W0 G0 w0 N G L st H ca w) {t e : TypeId} {n : Nat} {ei i : TypeInfo} {z : Value} {zc : List AV} {idx : List Nat} {xs : List Operand} {ys : List Opd}
    (ht : P.underlying t = some (.array n e)) (hei : P.info? e = some ei) (hi : P.info? t = some i) (hz : i.zero = some z) (hzc : z.cells.toList.mapM AV.ofCell = some zc) (hx : xs.mapM (cOpd N) = some ys) (hlen : idx.length = xs.length)
    {r : AV} (hr : (PExp.build zc (((idx.map fun j => (j * ei.size, ei.size)).zip ys).map fun p => (p.1.1, p.1.2, p.2))).ev st H = some r) : Gives P G L st w (Instr.build t ((idx.zip (xs.map ca.eval)).toArray)) r := by
  simp only [PExp.ev, Option.map_eq_some_iff] at hr
  obtain ⟨cs, hcs, rfl⟩ := hr
  obtain ⟨hyl, hrel⟩ := parts_rel h hx
  have hzr := (mapM_cells (G := G) hzc).1
  have e1 : (((idx.map fun j => (j * ei.size, ei.size)).zip ys).map fun p => (p.1.1, p.1.2, p.2)).map (fun p => (p.1, p.2.1, st.ev p.2.2)) = (((idx.map fun j => (j, j * ei.size, ei.size)).zip (ys.map st.ev)).map fun p => (p.1.2.1, p.1.2.2, p.2)) := by
    apply List.ext_getElem?
    intro k
    by_cases hk : k < ys.length
    · have a2 : k < idx.length := by omega
      simp [List.zip, List.getElem?_zipWith, List.getElem?_eq_getElem hk, List.getElem?_eq_getElem a2]
    · simp [List.zip, List.getElem?_zipWith, List.getElem?_eq_none (Nat.le_of_not_lt hk)]
  rw [e1] at hcs
  obtain ⟨us, hus, hur⟩ := fillAV_sound (G := G) (fun j => some (j * ei.size, ei.size)) (idx.map fun j => (j, j * ei.size, ei.size)) (ys.map st.ev) (xs.map ca.eval) (fun p hp => by
      simp only [List.mem_map] at hp
      obtain ⟨j, _, rfl⟩ := hp
      rfl) (by simp; omega) hzr (fun i x hx' => hrel i x hx') (by simp; omega) hcs
  refine .rel (v := .agg us.toArray) ?_ (.agg _ _ hur.1 hur.2)
  have e2 : ((idx.map fun j => (j, j * ei.size, ei.size)).zip (xs.map ca.eval)).map (fun p => (p.1.1, p.2)) = idx.zip (xs.map ca.eval) := by
    apply List.ext_getElem?
    intro k
    by_cases hk : k < idx.length
    · have a2 : k < xs.length := by omega
      simp [List.zip, List.getElem?_zipWith, List.getElem?_eq_getElem hk, List.getElem?_eq_getElem a2]
    · simp [List.zip, List.getElem?_zipWith, List.getElem?_eq_none (Nat.le_of_not_lt hk)]
  rw [e2] at hus
  have hsz : (sizeOf e).run P w = .ok ei.size w := by simp [sizeOf, typeInfo, hei]
  have ez : z.cells = z.cells.toList.toArray := by simp
  rw [ez] at *
  simp only [Instr.build, zeroValue, typeInfo, Sem.run_bind, run_program, Result.andThen_ok, hi, hz, Sem.run_pure, run_underlying ht, hsz]
  simp at hus ⊢
  rw [hus]
  rfl

/-- A field of a struct by value. -/
def fldAV (o : Nat) (n : Option Nat) (x : AV) : Option AV :=
  match x with
  | .agg cs => match n with
    | none => cs[o]?
    | some n => if o + n ≤ cs.length then some (.agg ((cs.drop o).take n)) else none
  | _ => none
theorem fld_sound (h : Rel W0 G0 w0 N G L st H ca w) {s : TypeId} {fields : Array Field} {k : Nat} {f : Field} {d : TypeDesc} {i : TypeInfo} (hs : P.underlying s = some (.struct fields)) (hf : fields[k]? = some f) (hd : P.underlying f.type = some d)
    (hi : P.info? f.type = some i) {x : Operand} {x' : Opd} (hx : cOpd N x = some x') {r : AV} (hr : fldAV f.offset (if d.isRow then some i.size else none) (st.ev x') = some r) : Gives P G L st w (Instr.field s (ca.eval x) k) r := by
  have h1 := h.opd hx
  generalize st.ev x' = a at *
  generalize ca.eval x = vx at *
  cases a <;> simp only [fldAV] at hr <;> try (cases hr; done)
  rename_i cs
  have h2 := h1.rel (by simp)
  cases h2 with
  | agg _ vs hl hv =>
    have hagg : (isAgg f.type).run P w = .ok d.isRow w := by
      unfold isAgg
      rw [Sem.run_bind, run_underlying hd w]
      cases d <;> rfl
    have hsz : (sizeOf f.type).run P w = .ok i.size w := by simp [sizeOf, typeInfo, hi]
    cases hrow : d.isRow with
    | false =>
      rw [hrow] at hr
      simp only [Bool.false_eq_true, if_false] at hr
      have ho : f.offset < cs.length := (List.getElem?_eq_some_iff.1 hr).1
      refine .rel (v := vs.getD f.offset undef) ?_ ?_
      · have : f.offset < vs.length := by omega
        simp [Instr.field, run_underlying hs, hf, asAgg, part, hagg, hrow, this]
      · have := hv f.offset ho
        rw [List.getD_eq_getElem?_getD, hr] at this
        exact this
    | true =>
      rw [hrow] at hr
      simp only [if_true] at hr
      split at hr
      · rename_i hn
        cases hr
        refine .rel (v := .agg ((vs.drop f.offset).take i.size).toArray) ?_ (.agg _ _ (by simp; omega) (fun j hj => ?_))
        · simp [Instr.field, run_underlying hs, hf, asAgg, part, hagg, hrow, hsz]
        · simp at hj
          rw [getD_take _ _ _ _ (by omega), getD_take _ _ _ _ (by omega), getD_drop, getD_drop]
          exact hv _ (by omega)
      · cases hr
end
end Go.Qa
