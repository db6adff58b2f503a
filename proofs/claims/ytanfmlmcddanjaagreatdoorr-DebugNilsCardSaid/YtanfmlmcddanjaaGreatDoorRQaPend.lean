/- The abstract machine: blocks that are made before the abstract heap has them: made; taken up. -/
import Derived.Test.YtanfmlmcddanjaaGreatDoorRQaStep
import Derived.Test.YtanfmlmcddanjaaGreatDoorRQaAppend
set_option linter.all false
namespace Go.Qa
open Go Go.RowKit

def AS.pend (st : AS) (t : Nat) (o : PObj) : AS := { s := fun i => if i = t then .any else st.s i, loc := st.loc, pnd := fun i => if i = t then some o else st.pnd i }
def PObj.av (o : PObj) (n : Nat) : AV :=
  match o with
  | .cells _ => .ref n 0
  | .map => .map n
  | .arr k _ esz _ => .arr n 0 k esz
def PObj.obj (o : PObj) : AObj :=
  match o with
  | .cells cs => .cells cs
  | .map => .map [] 0
  | .arr _ _ _ cs => .cells cs
def AS.pub (st : AS) (t : Nat) (o : PObj) (n : Nat) : AS := { s := fun i => if i = t then o.av n else st.s i, loc := st.loc, pnd := fun i => if i = t then none else st.pnd i }

section
variable {W0 : World} {G0 : Ghost} {w0 : World} {N : Nat} {G G' : Ghost} {L : Nat → Option Nat} {st : AS} {H H' : AHeap} {ca : Act} {w w' : World} {P : Program}

/-- A block of no ghost is made. -/
theorem Rel.grow (h : Rel W0 G0 w0 N G L st H ca w) (ob : Obj) : Rel W0 G0 w0 N G L st H ca (w.alloc ob) := by
  have hs := alloc_size w ob
  have hk : ∀ B, B < w.heap.size → (w.alloc ob).heap[B]? = w.heap[B]? := fun B q => heap_push_lt q
  refine { bw := h.bw, next := ⟨h.next.le, by rw [hs]; have := h.next.size; omega, fun B hB q => (hk B (by have := h.next.size; omega)).trans (h.next.keep B hB q), h.next.fresh⟩, inv := h.inv.frame (h.inv.base.alloc h.inv.base.size _) (by rw [hs]; omega) fun B n q => hk B (h.inv.lt B n q).2, defers := h.defers.go (fun _ _ q => q) (fun D _ hd => hk D (Array.getElem?_eq_some_iff.1 hd).1), size := h.size, slots := h.slots, locs := fun t cs e => ?_, linj := h.linj, lrefs := h.lrefs, pnds := h.pnds.go (.refl G) fun B _ hlt hs _ => ⟨hs, hk B hlt⟩ }
  obtain ⟨B, vs, ty, p1, p2, p3, p4, p5, p6⟩ := h.locs t cs e
  exact ⟨B, vs, ty, p1, p2, p3, (hk B (Array.getElem?_eq_some_iff.1 p4).1).trans p4, p5, p6⟩

theorem Rel.pend (h : Rel W0 G0 w0 N G L st H ca w) {t : Nat} (ht : t < N) {o : PObj} {ob : Obj} {v : Value} (hp : PRel G (w.alloc ob) w.heap.size v o) : Rel W0 G0 w0 N G L (st.pend t o) H (ca.put (some t) v) (w.alloc ob) := by
  have h1 := (h.grow ob).set (some t) (x := .any) (v := v) (.of (.any v)) (by simp)
  refine { bw := h1.bw, next := h1.next, inv := h1.inv, defers := h1.defers, size := h1.size, slots := h1.slots, locs := h1.locs, linj := h1.linj, lrefs := h1.lrefs, pnds := ?_ }
  obtain ⟨M, m1, m2, m3⟩ := h.pnds
  have hM : ∀ i, st.pnd i ≠ none → ∃ B, M i = some B ∧ B < w.heap.size := fun i e => by
    obtain ⟨o', ho'⟩ := Option.ne_none_iff_exists'.1 e
    obtain ⟨_, _, B, c, _, _, g⟩ := m1 i o' ho'
    exact ⟨B, c, g.lt⟩
  refine ⟨fun i => if i = t then some w.heap.size else M i, fun i o' e => ?_, fun i j a b e => ?_, fun i l a b => ?_⟩
  · simp only [AS.pend] at e
    by_cases q : i = t
    · subst q
      rw [if_pos rfl] at e
      cases e
      refine ⟨ht, by simp [AS.pend], w.heap.size, by simp, h.next.size, h.inv.nosz (Nat.le_refl _), ?_⟩
      have e2 : (ca.tmps.setIfInBounds i v).getD i undef = v := by
        rw [Array.getD_eq_getD_getElem?, Array.getElem?_setIfInBounds_self, if_pos (by rw [h.size]; exact ht)]; rfl
      simp only [Act.put, e2]
      exact hp
    · rw [if_neg q] at e
      obtain ⟨a, b, B, c, d, f, g⟩ := m1 i o' e
      refine ⟨a, by simp only [AS.pend]; rw [if_neg q]; exact b, B, by simp only; rw [if_neg q]; exact c, d, f, ?_⟩
      have e2 : (ca.tmps.setIfInBounds t v).getD i undef = ca.tmps.getD i undef := by
        rw [Array.getD_eq_getD_getElem?, Array.getElem?_setIfInBounds_ne (fun q' => q q'.symm), Array.getD_eq_getD_getElem?]
      simp only [Act.put, e2]
      exact g.go (.refl G) (heap_push_lt g.lt)
  · simp only [AS.pend] at a b
    simp only at e
    by_cases q : i = t <;> by_cases q' : j = t
    · omega
    · rw [if_pos q, if_neg q'] at e
      rw [if_neg q'] at b
      obtain ⟨B, c, d⟩ := hM j b
      rw [c] at e; cases e; omega
    · rw [if_neg q, if_pos q'] at e
      rw [if_neg q] at a
      obtain ⟨B, c, d⟩ := hM i a
      rw [c] at e; cases e; omega
    · rw [if_neg q, if_neg q'] at e
      rw [if_neg q] at a; rw [if_neg q'] at b
      exact m2 i j a b e
  · simp only [AS.pend] at a b
    obtain ⟨cs, hcs⟩ := Option.ne_none_iff_exists'.1 b
    obtain ⟨B, _, _, p1, _, _, p4, _⟩ := h.locs l cs hcs
    have hB : B < w.heap.size := (Array.getElem?_eq_some_iff.1 p4).1
    by_cases q : i = t
    · simp only; rw [if_pos q, p1]
      intro z; cases z; omega
    · rw [if_neg q] at a
      simp only; rw [if_neg q]
      exact m3 i l a b

/-- The abstract heap takes the block up. -/
theorem Rel.pub (h : Rel W0 G0 w0 N G L st H ca w) {t : Nat} {o : PObj} (ho : st.pnd t = some o) : ∃ G', Rel W0 G0 w0 N G' L (st.pub t o H.length) (H ++ [o.obj]) ca w := by
  obtain ⟨M, m1, m2, m3⟩ := h.pnds
  obtain ⟨htN, hany, B, hM, hw0, hsz, hp⟩ := m1 t o ho
  have hW : W0.heap.size ≤ B := Nat.le_trans h.bw hw0
  have hlt := hp.lt
  have key : ∃ n, HInv W0 (H ++ [o.obj]) (G.addB H.length B n) w ∧ VRel (G.addB H.length B n) (o.av H.length) (ca.tmps.getD t undef) := by
    cases o with
    | cells cs =>
      obtain ⟨e, vs, ty, h1, h2, h3⟩ := hp
      refine ⟨vs.size, h.inv.adopt hsz hW hlt _ _ (by simp [PObj.obj]) ⟨B, vs, ty, (0, 0), by simp [Ghost.addB], h1, by simp [Ghost.addB], by simp, by have := h2.1; simp at this; omega, fun j hj => ⟨?_, ?_⟩⟩, ?_⟩
      · rw [List.getD_eq_getElem?_getD, List.getElem?_eq_getElem hj]
        exact h3 _ (List.getElem_mem hj)
      · exact (h2.2 j hj).mono (h.inv.adopt_le hsz _)
      · rw [e]; exact .ref _ _ _ (by simp [Ghost.addB])
    | map =>
      obtain ⟨e, h1⟩ := hp
      refine ⟨0, h.inv.adopt hsz hW hlt _ _ (by simp [PObj.obj]) ⟨B, #[], by simp [Ghost.addB], h1, rfl, fun j hj => by simp at hj⟩, ?_⟩
      rw [e]; exact .map _ _ (by simp [Ghost.addB])
    | arr k cap esz cs =>
      obtain ⟨e, hc, hx, vs, ty, h1, h2, h3, h4⟩ := hp
      refine ⟨vs.size, h.inv.adopt hsz hW hlt _ _ (by simp [PObj.obj]) ⟨B, vs, ty, (0, 0), by simp [Ghost.addB], h1, by simp [Ghost.addB], by simp, by have := h2.1; simp at this; omega, fun j hj => ⟨?_, ?_⟩⟩, ?_⟩
      · rw [List.getD_eq_getElem?_getD, List.getElem?_eq_getElem hj]
        exact h3 _ (List.getElem_mem hj)
      · exact (h2.2 j hj).mono (h.inv.adopt_le hsz _)
      · rw [e]
        have := VRel.arr (G := G.addB H.length B vs.size) H.length 0 k esz B cap vs.size (by simp [Ghost.addB]) hc hx (by simp [Ghost.addB]) (by simpa using h4)
        simpa [PObj.av] using this
  obtain ⟨n, hi, hv⟩ := key
  have hle := h.inv.adopt_le hsz n
  have hne : ∀ C, G.sz C = none → C ≠ B → (G.addB H.length B n).sz C = none := fun C e q => by
    simp only [Ghost.addB]; rw [if_neg q]; exact e
  refine ⟨G.addB H.length B n, { bw := h.bw, next := ⟨h.next.le.trans hle, h.next.size, h.next.keep, fun C m e => ?_⟩, inv := hi, defers := ?_, size := h.size, slots := fun i hi2 => ?_, locs := fun l cs e => ?_, linj := h.linj, lrefs := fun i j off hi2 e => ?_, pnds := ?_ }⟩
  · simp only [Ghost.addB] at e
    split at e
    · subst C; exact .inr hw0
    · exact h.next.fresh C m e
  · obtain ⟨Ds, d1, d2, d3⟩ := h.defers
    refine ⟨Ds, d1, d2, fun D hD => ?_⟩
    obtain ⟨a, b, c⟩ := d3 D hD
    refine ⟨a, hne D b (fun e => ?_), c⟩
    subst e
    cases o with
    | cells cs => obtain ⟨_, vs, ty, g2, _⟩ := hp; rw [c] at g2; cases g2
    | map => have g2 := hp.2; rw [c] at g2; cases g2
    | arr n cap esz cs => obtain ⟨_, _, _, vs, ty, g2, _⟩ := hp; rw [c] at g2; cases g2
  · simp only [AS.pub]
    by_cases q : i = t
    · rw [if_pos q, q]; exact .inr hv
    · rw [if_neg q]
      rcases h.slots i hi2 with z | z
      · exact .inl z
      · exact .inr (z.mono hle)
  · obtain ⟨C, vs, ty, p1, p2, p3, p4, p5, p6⟩ := h.locs l cs e
    have : C ≠ B := by
      rintro rfl
      exact m3 t l (by rw [ho]; simp) (by rw [show st.loc l = some cs from e]; simp) (by rw [hM, p1])
    exact ⟨C, vs, ty, p1, p2, hne C p3 this, p4, p5.mono hle, p6⟩
  · simp only [AS.pub] at e
    by_cases q : i = t
    · rw [if_pos q] at e; cases o <;> simp [PObj.av] at e
    · rw [if_neg q] at e; exact h.lrefs i j off hi2 e
  · have kk : ∀ i o', (st.pub t o H.length).pnd i = some o' → i ≠ t ∧ st.pnd i = some o' := fun i o' e => by
      simp only [AS.pub] at e
      split at e
      · cases e
      · exact ⟨by assumption, e⟩
    have kn : ∀ i, (st.pub t o H.length).pnd i ≠ none → st.pnd i ≠ none := fun i e => by
      obtain ⟨o', ho'⟩ := Option.ne_none_iff_exists'.1 e
      rw [(kk i o' ho').2]; simp
    refine ⟨M, fun i o' e => ?_, fun i j a b => m2 i j (kn i a) (kn j b), fun i l a b => m3 i l (kn i a) b⟩
    obtain ⟨q, e⟩ := kk i o' e
    obtain ⟨a, b, C, c, d, f, g⟩ := m1 i o' e
    refine ⟨a, by simp only [AS.pub]; rw [if_neg q]; exact b, C, c, d, hne C f (fun z => ?_), g.go hle rfl⟩
    exact q (m2 i t (by rw [e]; simp) (by rw [ho]; simp) (by rw [c, hM, z]))
end
end Go.Qa
