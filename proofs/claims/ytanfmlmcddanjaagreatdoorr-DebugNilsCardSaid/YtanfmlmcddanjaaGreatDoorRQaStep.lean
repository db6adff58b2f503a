/- The abstract machine, part 7: steps that turn memory: boxes, stores, calls. -/
import Derived.Test.YtanfmlmcddanjaaGreatDoorRQaPure2
set_option linter.all false
namespace Go.Qa
open Go Go.RowKit
section
variable {W0 : World} {G0 : Ghost} {w0 : World} {N : Nat} {G G' : Ghost} {L : Nat → Option Nat} {st : AS} {H H' : AHeap} {ca : Act} {w w' : World} {P : Program}

/-- The world goes on; the function's own blocks stay. -/
theorem Rel.step (h : Rel W0 G0 w0 N G L st H ca w) (hn : Next G w G' w') (hi : HInv W0 H' G' w') : Rel W0 G0 w0 N G' L st H' ca w' := {
  bw := h.bw
  next := h.next.trans hn
  inv := hi
  defers := h.defers.next hn
  size := h.size
  slots t ht := by
    rcases h.slots t ht with q | q
    · exact .inl q
    · exact .inr (q.mono hn.le)
  locs t cs e := by
    obtain ⟨B, vs, ty, h1, h2, h3, h4, h5, h6⟩ := h.locs t cs e
    have hlt : B < w.heap.size := (Array.getElem?_eq_some_iff.1 h4).1
    refine ⟨B, vs, ty, h1, h2, ?_, (hn.keep B hlt h3).trans h4, h5.mono hn.le, h6⟩
    rcases q : G'.sz B with _ | n
    · rfl
    · rcases hn.fresh B n q with z | z
      · rw [z] at h3; cases h3
      · omega
  linj := h.linj
  lrefs := h.lrefs
  pnds := h.pnds.go hn.le fun B hB hlt hs _ => by
    refine ⟨?_, hn.keep B hlt hs⟩
    rcases q : G'.sz B with _ | n
    · rfl
    · rcases hn.fresh B n q with z | z
      · rw [z] at hs; cases hs
      · omega }

/-- Only the function's own blocks, and new ones, turn. -/
theorem Rel.drew (h : Rel W0 G0 w0 N G L st H ca w) : Rel W0 G0 w0 N G L st H ca w.drew := h.step (Next.drew G w) h.inv.drew

def AV.forget (t : Nat) (x : AV) : AV :=
  match x with
  | .lref i o => if i = t then .any else .lref i o
  | x => x
/-- A block of the function's own. -/
def AS.newLoc (st : AS) (t : Nat) (cs : List AV) : AS :=
  { s := fun i => if i = t then .lref t 0 else (st.s i).forget t, loc := fun i => if i = t then some cs else st.loc i, pnd := fun i => if i = t then none else st.pnd i }

theorem Rel.newLoc (h : Rel W0 G0 w0 N G L st H ca w) (t : Nat) (ht : t < N) (cs : List AV) (vs : List Value) (ty : TypeId) (hv : VRels G cs vs) (h1 : ∀ c ∈ cs, c.one = true) :
    Rel W0 G0 w0 N G (fun i => if i = t then some w.heap.size else L i) (st.newLoc t cs) H (ca.put (some t) (.pointer (some ⟨w.heap.size, 0, none⟩))) (w.alloc (.cells vs.toArray ty)) := by
  have hb : ∀ i l, st.loc i = some l → ∃ B, L i = some B ∧ B < w.heap.size := fun i l e => by
    obtain ⟨B, _, _, q, _, _, z, _⟩ := h.locs i l e
    exact ⟨B, q, (Array.getElem?_eq_some_iff.1 z).1⟩
  refine { bw := h.bw, next := ⟨h.next.le, ?_, ?_, h.next.fresh⟩, inv := ?_, defers := h.defers.go (fun _ _ q => q) (fun D _ hd => heap_push_lt (Array.getElem?_eq_some_iff.1 hd).1), size := by simp [Act.put, h.size], slots := fun i hi => ?_, locs := fun i l e => ?_, linj := fun i j B hi hj e e' => ?_, lrefs := fun i j off hi e => ?_, pnds := ?_ }
  · rw [alloc_size]; have := h.next.size; omega
  · intro B hB hn
    have := h.next.size
    exact (heap_push_lt (by omega)).trans (h.next.keep B hB hn)
  · exact h.inv.frame (h.inv.base.alloc h.inv.base.size _) (by rw [alloc_size]; omega) fun B n e => heap_push_lt (h.inv.lt B n e).2
  · simp only [AS.newLoc, Act.put]
    by_cases e : i = t
    · subst e
      rw [if_pos rfl]
      have : (ca.tmps.setIfInBounds i (.pointer (some ⟨w.heap.size, 0, none⟩))).getD i undef = .pointer (some ⟨w.heap.size, 0, none⟩) := by
        rw [Array.getD_eq_getD_getElem?, Array.getElem?_setIfInBounds_self, if_pos (by rw [h.size]; exact hi)]; rfl
      rw [this]
      exact .inl ⟨i, 0, w.heap.size, rfl, by simp, rfl⟩
    · rw [if_neg e]
      have : (ca.tmps.setIfInBounds t (.pointer (some ⟨w.heap.size, 0, none⟩))).getD i undef = ca.tmps.getD i undef := by
        rw [Array.getD_eq_getD_getElem?, Array.getElem?_setIfInBounds_ne (fun q => e q.symm), Array.getD_eq_getD_getElem?]
      rw [this]
      rcases h.slots i hi with ⟨j, o, B, e1, e2, e3⟩ | q
      · rw [e1]
        simp only [AV.forget]
        split
        · exact .inr (.any _)
        · rename_i hj
          exact .inl ⟨j, o, B, rfl, by simp only [if_neg hj]; exact e2, e3⟩
      · right
        have : (st.s i).forget t = st.s i ∨ (st.s i).forget t = .any := by
          cases st.s i <;> simp [AV.forget]
          omega
        rcases this with z | z
        · rw [z]; exact q
        · rw [z]; exact .any _
  · simp only [AS.newLoc] at e
    by_cases q : i = t
    · rw [if_pos q] at e
      cases e
      refine ⟨w.heap.size, vs, ty, by rw [if_pos q], h.next.size, h.inv.nosz (Nat.le_refl _), heap_push_new, hv, h1⟩
    · rw [if_neg q] at e
      obtain ⟨B, us, ty', p1, p2, p3, p4, p5, p6⟩ := h.locs i l e
      exact ⟨B, us, ty', by rw [if_neg q]; exact p1, p2, p3, (heap_push_lt (Array.getElem?_eq_some_iff.1 p4).1).trans p4, p5, p6⟩
  · simp only [AS.newLoc] at hi hj
    by_cases q : i = t <;> by_cases q' : j = t
    · omega
    · exfalso
      rw [if_pos q] at e; rw [if_neg q'] at e' hj
      cases e
      obtain ⟨l, hl⟩ := Option.ne_none_iff_exists'.1 hj
      obtain ⟨B, z, zz⟩ := hb j l hl
      rw [z] at e'; cases e'; omega
    · exfalso
      rw [if_pos q'] at e'; rw [if_neg q] at e hi
      cases e'
      obtain ⟨l, hl⟩ := Option.ne_none_iff_exists'.1 hi
      obtain ⟨B, z, zz⟩ := hb i l hl
      rw [z] at e; cases e; omega
    · rw [if_neg q] at e hi; rw [if_neg q'] at e' hj
      exact h.linj i j B hi hj e e'
  · simp only [AS.newLoc] at e ⊢
    by_cases q : i = t
    · rw [if_pos q] at e; cases e; simp
    · rw [if_neg q] at e
      split
      · simp
      · rename_i hj
        have : st.s i = .lref j off := by
          revert e
          cases st.s i <;> simp [AV.forget]
          intro z
          split at z
          · cases z
          · simpa using z
        exact h.lrefs i j off hi this
  · obtain ⟨M, h1, h2, h3⟩ := h.pnds
    have key : ∀ i o, (st.newLoc t cs).pnd i = some o → i ≠ t ∧ st.pnd i = some o := fun i o e => by
      simp only [AS.newLoc] at e
      split at e
      · cases e
      · exact ⟨by assumption, e⟩
    have key2 : ∀ i, (st.newLoc t cs).pnd i ≠ none → ∃ o, i ≠ t ∧ st.pnd i = some o := fun i e => by
      obtain ⟨o, ho⟩ := Option.ne_none_iff_exists'.1 e
      exact ⟨o, key i o ho⟩
    refine ⟨M, fun i o e => ?_, fun i i' a b => ?_, fun i l a b => ?_⟩
    · obtain ⟨q, e⟩ := key i o e
      obtain ⟨a, b, B, c, d, f, g⟩ := h1 i o e
      refine ⟨a, by simp only [AS.newLoc]; rw [if_neg q, b]; rfl, B, c, d, f, ?_⟩
      have : (ca.tmps.setIfInBounds t (.pointer (some ⟨w.heap.size, 0, none⟩))).getD i undef = ca.tmps.getD i undef := by
        rw [Array.getD_eq_getD_getElem?, Array.getElem?_setIfInBounds_ne (fun q' => q q'.symm), Array.getD_eq_getD_getElem?]
      simp only [Act.put, this]
      exact g.go (.refl G) (heap_push_lt g.lt)
    · obtain ⟨o, _, a⟩ := key2 i a
      obtain ⟨o', _, b⟩ := key2 i' b
      exact h2 i i' (by rw [a]; simp) (by rw [b]; simp)
    · obtain ⟨o, _, a⟩ := key2 i a
      obtain ⟨_, _, B, c, _, _, g⟩ := h1 i o a
      simp only [AS.newLoc] at b
      show M i ≠ if l = t then some w.heap.size else L l
      by_cases q : l = t
      · rw [if_pos q, c]
        have := g.lt
        intro z
        cases z; omega
      · rw [if_neg q] at b ⊢
        exact h3 i l (by rw [a]; simp) b

/-- A store into a block of the function's own. -/
def AS.setLoc (st : AS) (t : Nat) (cs : List AV) : AS := { st with loc := fun i => if i = t then some cs else st.loc i }
theorem Rel.setLoc (h : Rel W0 G0 w0 N G L st H ca w) (t o : Nat) (B : Nat) (cs ns : List AV) (nvs : List Value) (hc : st.loc t = some cs) (hB : L t = some B) (hl : o + ns.length ≤ cs.length) (hv : VRels G ns nvs) (h1 : ∀ c ∈ ns, c.one = true) :
    Rel W0 G0 w0 N G L (st.setLoc t (over cs o ns)) H ca (w.setCells B o nvs) := by
  obtain ⟨B', vs, ty, p1, p2, p3, p4, p5, p6⟩ := h.locs t cs hc
  rw [hB] at p1; cases p1
  have hlen : nvs.length = ns.length := hv.1
  have hown : ∀ C n, G.sz C = some n → C ≠ B := fun C n e q => by rw [q, p3] at e; cases e
  refine { bw := h.bw, next := ⟨h.next.le, ?_, ?_, h.next.fresh⟩, inv := ?_, defers := h.defers.go (fun _ _ q => q) (fun D _ hd => heap_setCells_ne B nvs o w D (fun q => by rw [q, p4] at hd; cases hd)), size := h.size, slots := h.slots, locs := fun i l e => ?_, linj := fun i j B hi hj e e' => ?_, lrefs := fun i j off hi e => ?_, pnds := ?_ }
  · rw [size_setCells]; exact h.next.size
  · intro C hC hn
    exact (heap_setCells_ne B nvs o w C (by omega)).trans (h.next.keep C hC hn)
  · have hW : W0.heap.size ≤ B := Nat.le_trans h.bw p2
    exact h.inv.frame (Below.setCells B hW nvs o w h.inv.base) (by rw [size_setCells]; exact Nat.le_refl _) fun C n e => heap_setCells_ne B nvs o w C (hown C n e)
  · simp only [AS.setLoc] at e
    by_cases q : i = t
    · subst q
      rw [if_pos rfl] at e
      cases e
      refine ⟨B, over vs o nvs, ty, hB, p2, p3, heap_setCells_at B ty (0, 0) nvs o w vs p4 (by rw [p5.1]; omega), ⟨?_, fun j hj => ?_⟩, fun c hc => ?_⟩
      · rw [over_length (by rw [p5.1]; omega), over_length hl, p5.1]
      · rw [over_length hl] at hj
        rw [over_getD hl, over_getD (by rw [p5.1]; omega), hlen]
        split
        · exact hv.2 _ (by omega)
        · exact p5.2 j hj
      · simp only [over, List.mem_append] at hc
        rcases hc with (hc | hc) | hc
        · exact p6 c (List.mem_of_mem_take hc)
        · exact h1 c hc
        · exact p6 c (List.mem_of_mem_drop hc)
    · rw [if_neg q] at e
      obtain ⟨C, us, ty', q1, q2, q3, q4, q5, q6⟩ := h.locs i l e
      have : C ≠ B := by
        rintro rfl
        exact q (h.linj i t C (by rw [e]; simp) (by rw [hc]; simp) q1 hB)
      exact ⟨C, us, ty', q1, q2, q3, (heap_setCells_ne B nvs o w C this).trans q4, q5, q6⟩
  · simp only [AS.setLoc] at hi hj
    refine h.linj i j B ?_ ?_ e e'
    · by_cases q : i = t
      · rw [q, hc]; simp
      · rwa [if_neg q] at hi
    · by_cases q : j = t
      · rw [q, hc]; simp
      · rwa [if_neg q] at hj
  · simp only [AS.setLoc]
    split
    · simp
    · exact h.lrefs i j off hi e
  · obtain ⟨M, h1, h2, h3⟩ := h.pnds
    refine ⟨M, fun i o e => ?_, h2, fun i l a b => ?_⟩
    · obtain ⟨a, b, C, c, d, f, g⟩ := h1 i o e
      have hne : C ≠ B := by
        rintro rfl
        exact h3 i t (by rw [show st.pnd i = some o from e]; simp) (by rw [hc]; simp) (by rw [c, hB])
      exact ⟨a, b, C, c, d, f, g.go (.refl G) (by exact heap_setCells_ne B nvs _ w C hne)⟩
    · simp only [AS.setLoc] at b
      refine h3 i l a ?_
      by_cases q : l = t
      · rw [q, hc]; simp
      · rwa [if_neg q] at b
end
end Go.Qa
