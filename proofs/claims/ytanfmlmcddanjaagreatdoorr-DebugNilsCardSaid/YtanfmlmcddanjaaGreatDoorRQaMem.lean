/- The abstract machine, part 2: how the ghosts go on when memory is made or written. -/
import Derived.Test.YtanfmlmcddanjaaGreatDoorRQaBase
set_option linter.all false
namespace Go.Qa
open Go Go.RowKit
variable {W0 : World} {H : AHeap} {G G' : Ghost} {w w' : World}

theorem HInv.nobx (h : HInv W0 H G w) {i : Nat} (hi : H.length ≤ i) : G.bx i = none := by
  rcases e : G.bx i with _ | B
  · rfl
  · have := (h.bxs i B e).1; omega
theorem HInv.noat (h : HInv W0 H G w) {t : Nat} (hi : H.length ≤ t) (n : Nat) : G.at_ t n = none := by
  rcases e : G.at_ t n with _ | ⟨B, E⟩
  · rfl
  · have := (h.ats t n B E e).1; omega
theorem HInv.nosz (h : HInv W0 H G w) {B : Nat} (hB : w.heap.size ≤ B) : G.sz B = none := by
  rcases e : G.sz B with _ | n
  · rfl
  · have := (h.lt B n e).2; omega
theorem HInv.noimm (h : HInv W0 H G w) {B : Nat} (hB : w.heap.size ≤ B) (o : Nat) : G.imm B o = none := by
  rcases e : G.imm B o with _ | v
  · rfl
  · rcases (h.imm B o v e).1 with q | q
    · exact absurd (h.nosz hB) q
    · have := h.base.size; omega
/-- An immutable cell's block is there; it is owned, or as old as W0. -/
theorem HInv.immLt (h : HInv W0 H G w) {B o : Nat} {v : Value} (e : G.imm B o = some v) : B < w.heap.size := by
  rcases (h.imm B o v e).1 with q | q
  · obtain ⟨n, hn⟩ := Option.ne_none_iff_exists'.1 q
    exact (h.lt B n hn).2
  · have := h.base.size; omega
theorem HInv.nobxB (h : HInv W0 H G w) {B : Nat} (hB : w.heap.size ≤ B) (i : Nat) : G.bx i ≠ some B := fun e => (h.bxs i B e).2.1 (h.nosz hB)
theorem HInv.noatB (h : HInv W0 H G w) {B : Nat} (hB : w.heap.size ≤ B) (t n E : Nat) : G.at_ t n ≠ some (B, E) := fun e => (h.ats t n B E e).2.1 (h.nosz hB)

theorem cell_of_heap {w w' : World} {B : Nat} (h : w'.heap[B]? = w.heap[B]?) (o : Nat) : w'.cell? ⟨B, o, none⟩ = w.cell? ⟨B, o, none⟩ := by
  simp only [World.cell?, h]

/-- An object, as the ghosts grow in other blocks. -/
theorem ORel.ext (hi : HInv W0 H G w) (hle : G.le G') (himm : ∀ B n o, G.sz B = some n → G'.imm B o = G.imm B o)
    (hheap : ∀ B n, G.sz B = some n → w'.heap[B]? = w.heap[B]?) {i : Nat} {o : AObj} (h : ORel G w i o) : ORel G' w' i o := by
  have sz : ∀ j B, G.bx j = some B → w'.heap[B]? = w.heap[B]? := fun j B hb => by
    obtain ⟨n, hn⟩ := Option.ne_none_iff_exists'.1 (hi.bxs j B hb).2.1
    exact hheap B n hn
  cases o with
  | cells cs =>
    obtain ⟨B, vs, ty, fz, hb, hh, hs, hf, hl, hv⟩ := h
    exact ⟨B, vs, ty, fz, hle.bx _ _ hb, (sz i B hb).trans hh, hle.sz _ _ hs, hf, hl, fun j hj => ⟨(hv j hj).1, (hv j hj).2.mono hle⟩⟩
  | row n =>
    obtain ⟨B, E, vs, ty, fz, ha, hh, hs, hE, hn, hf⟩ := h
    exact ⟨B, E, vs, ty, fz, hle.at_ _ _ _ ha, (hheap B _ hs).trans hh, hle.sz _ _ hs, hE, fun o ho => (himm B _ o hs).trans (hn o ho), hf⟩
  | map es clock =>
    obtain ⟨B, ms, hb, hh, hl, hv⟩ := h
    refine ⟨B, ms, hle.bx _ _ hb, (sz i B hb).trans hh, hl, fun j hj => ?_⟩
    obtain ⟨e, m, h1, h2, h3, h4, h5⟩ := hv j hj
    exact ⟨e, m, h1, h2, h3.mono hle, h4.mono hle, h5⟩
  | iter m since seen stepped =>
    obtain ⟨B, hb, mB, hh, hm⟩ := h
    refine ⟨B, hle.bx _ _ hb, mB, (sz i B hb).trans hh, ?_⟩
    cases m with
    | none => exact hm
    | some j =>
      obtain ⟨C, hC, e⟩ := hm
      exact ⟨C, hle.bx _ _ hC, e⟩
  | siter s pos =>
    obtain ⟨B, hb, hh⟩ := h
    exact ⟨B, hle.bx _ _ hb, (sz i B hb).trans hh⟩
  | loop busy ss ps asg body pend =>
    obtain ⟨B, r, hb, hh, h1, h2, h3, h4, h5, h6⟩ := h
    exact ⟨B, r, hle.bx _ _ hb, (sz i B hb).trans hh, h1, h2, h3, h4, h5, h6.mono hle⟩
  | dead => exact trivial

/-- Blocks that the ghosts don't own may turn. -/
theorem HInv.frame (h : HInv W0 H G w) (hb : Below W0.heap.size W0 w') (hs : w.heap.size ≤ w'.heap.size)
    (hh : ∀ B n, G.sz B = some n → w'.heap[B]? = w.heap[B]?) : HInv W0 H G w' := {
  base := hb
  lt B n e := ⟨(h.lt B n e).1, Nat.lt_of_lt_of_le (h.lt B n e).2 hs⟩
  imm B o v e := by
    obtain ⟨h1, h2⟩ := h.imm B o v e
    refine ⟨h1, (cell_of_heap ?_ o).trans h2⟩
    rcases h1 with h1 | h1
    · obtain ⟨n, hn⟩ := Option.ne_none_iff_exists'.1 h1
      exact hh B n hn
    · exact (hb.block B h1).trans (h.base.block B h1).symm
  bxs := h.bxs
  inj := h.inj
  ats := h.ats
  obj i o e := ORel.ext h (.refl G) (fun _ _ _ _ => rfl) hh (h.obj i o e)
  cur := h.cur }

theorem HInv.drew (h : HInv W0 H G w) : HInv W0 H G w.drew := h.frame h.base.drew (Nat.le_refl _) fun _ _ _ => rfl
theorem Next.drew (G : Ghost) (w : World) : Next G w G w.drew := ⟨.refl G, Nat.le_refl _, fun _ _ _ => rfl, fun _ _ h => .inl h⟩

/-- A block of a box: a new one. -/
def Ghost.addB (G : Ghost) (i B n : Nat) : Ghost :=
  { G with bx := fun j => if j = i then some B else G.bx j, sz := fun C => if C = B then some n else G.sz C }
/-- A block of a row: some of its cells stay as they are. -/
def Ghost.addR (G : Ghost) (B n : Nat) (c : Nat → Option Value) (t m : Nat) (E : Option Nat) : Ghost :=
  { G with imm := fun C o => if C = B then c o else G.imm C o, sz := fun C => if C = B then some n else G.sz C,
           at_ := fun t' n' => if t' = t ∧ n' = m ∧ E.isSome then E.map fun e => (B, e) else G.at_ t' n' }

theorem HInv.addB_le (h : HInv W0 H G w) (n : Nat) : G.le (G.addB H.length w.heap.size n) := {
  bx i B e := by
    have := (h.bxs i B e).1
    simp only [Ghost.addB]; rw [if_neg (by omega)]; exact e
  imm _ _ _ e := e
  at_ _ _ _ e := e
  sz B m e := by
    have := (h.lt B m e).2
    simp only [Ghost.addB]; rw [if_neg (by omega)]; exact e
  immf _ _ _ e := .inl e }

theorem heap_push_lt {w : World} {o : Obj} {B : Nat} (h : B < w.heap.size) : (w.alloc o).heap[B]? = w.heap[B]? := Below.heap_alloc w o B h
theorem heap_push_new {w : World} {o : Obj} : (w.alloc o).heap[w.heap.size]? = some o := by
  show (w.heap.push o)[w.heap.size]? = _
  simp
theorem alloc_size (w : World) (o : Obj) : (w.alloc o).heap.size = w.heap.size + 1 := by
  show (w.heap.push o).size = _
  simp

/-- A new box, map or iterator. -/
theorem HInv.addB (h : HInv W0 H G w) (o : AObj) (ob : Obj) (n : Nat) (hrow : ∀ k, o ≠ .row k)
    (ho : ORel (G.addB H.length w.heap.size n) (w.alloc ob) H.length o) : HInv W0 (H ++ [o]) (G.addB H.length w.heap.size n) (w.alloc ob) := {
  base := h.base.alloc h.base.size ob
  lt B m e := by
    rw [alloc_size]
    simp only [Ghost.addB] at e
    split at e
    · have := h.base.size; subst B; omega
    · have := h.lt B m e; omega
  imm B o v e := by
    obtain ⟨h1, h2⟩ := h.imm B o v e
    have := h.immLt e
    refine ⟨?_, (cell_of_heap (heap_push_lt this) o).trans h2⟩
    simp only [Ghost.addB]; rw [if_neg (by omega)]; exact h1
  bxs i B e := by
    simp only [Ghost.addB] at e ⊢
    rw [List.length_append, List.length_singleton]
    split at e
    · cases e
      exact ⟨by omega, by simp, fun _ o => h.noimm (Nat.le_refl _) o⟩
    · obtain ⟨h1, h2, h3⟩ := h.bxs i B e
      refine ⟨by omega, ?_, fun q => h3 (live_append h1 q)⟩
      split
      · simp
      · exact h2
  inj i j B hi hj li lj := by
    simp only [Ghost.addB] at hi hj
    split at hi <;> split at hj
    · omega
    · cases hi; exact absurd hj (h.nobxB (Nat.le_refl _) j)
    · cases hj; exact absurd hi (h.nobxB (Nat.le_refl _) i)
    · exact h.inj i j B hi hj (live_append (h.bxs i B hi).1 li) (live_append (h.bxs j B hj).1 lj)
  ats t k B E e := by
    obtain ⟨h1, h2, h3⟩ := h.ats t k B E e
    rw [List.length_append, List.length_singleton]
    refine ⟨by omega, ?_, fun i => ?_⟩
    · simp only [Ghost.addB]
      split
      · simp
      · exact h2
    · simp only [Ghost.addB]
      split
      · intro q; cases q; exact absurd (h.nosz (Nat.le_refl _)) h2
      · exact fun q => dead_append (h3 i q)
  obj i x e := by
    rcases Nat.lt_or_ge i H.length with hlt | hge
    · rw [List.getElem?_append_left hlt] at e
      exact ORel.ext h (h.addB_le n) (fun _ _ _ _ => rfl) (fun B m hB => heap_push_lt (h.lt B m hB).2) (h.obj i x e)
    · rw [List.getElem?_append_right hge] at e
      have : i = H.length := by
        have := (List.getElem?_eq_some_iff.1 e).1
        simp at this; omega
      subst this
      simp at e
      subst e
      exact ho
  cur t t' k k' B E E' e e' a a' := by
    have key : ∀ (t k : Nat), (H ++ [o])[t]? = some (AObj.row k) → H[t]? = some (AObj.row k) := by
      intro t k e
      rcases Nat.lt_or_ge t H.length with hlt | hge
      · rwa [List.getElem?_append_left hlt] at e
      · rw [List.getElem?_append_right hge] at e
        have : t - H.length = 0 := by
          have := (List.getElem?_eq_some_iff.1 e).1
          simp at this; omega
        simp [this] at e
        exact absurd e (hrow k)
    exact h.cur t t' k k' B E E' (key t k e) (key t' k' e') a a' }

theorem HInv.addB_next (h : HInv W0 H G w) (ob : Obj) (n : Nat) : Next G w (G.addB H.length w.heap.size n) (w.alloc ob) := {
  le := h.addB_le n
  size := by rw [alloc_size]; omega
  keep B hB _ := heap_push_lt hB
  fresh B m e := by
    simp only [Ghost.addB] at e
    split at e
    · exact .inr (by omega)
    · exact .inl e }

/-- A block that nobody owned is taken as a new object. -/
theorem HInv.adopt_le (h : HInv W0 H G w) {B : Nat} (hs : G.sz B = none) (n : Nat) : G.le (G.addB H.length B n) := {
  bx i C e := by
    have := (h.bxs i C e).1
    simp only [Ghost.addB]; rw [if_neg (by omega)]; exact e
  imm _ _ _ e := e
  at_ _ _ _ e := e
  sz C m e := by
    simp only [Ghost.addB]; rw [if_neg (fun q => by rw [q, hs] at e; cases e)]; exact e
  immf _ _ _ e := .inl e }
theorem HInv.adopt (h : HInv W0 H G w) {B : Nat} (hs : G.sz B = none) (hW : W0.heap.size ≤ B) (hw : B < w.heap.size) (o : AObj) (n : Nat) (hrow : ∀ k, o ≠ .row k)
    (ho : ORel (G.addB H.length B n) w H.length o) : HInv W0 (H ++ [o]) (G.addB H.length B n) w := {
  base := h.base
  lt C m e := by
    simp only [Ghost.addB] at e
    split at e
    · subst C; exact ⟨hW, hw⟩
    · exact h.lt C m e
  imm C o v e := by
    obtain ⟨h1, h2⟩ := h.imm C o v e
    refine ⟨h1.imp (fun h1 => ?_) id, h2⟩
    simp only [Ghost.addB]; rw [if_neg (fun q : C = B => h1 (by rw [q]; exact hs))]; exact h1
  bxs i C e := by
    simp only [Ghost.addB] at e ⊢
    rw [List.length_append, List.length_singleton]
    split at e
    · cases e
      refine ⟨by omega, by simp, fun _ o => ?_⟩
      rcases q : G.imm B o with _ | v
      · rfl
      · rcases (h.imm B o v q).1 with z | z
        · exact absurd hs z
        · omega
    · obtain ⟨h1, h2, h3⟩ := h.bxs i C e
      refine ⟨by omega, ?_, fun q => h3 (live_append h1 q)⟩
      split
      · simp
      · exact h2
  inj i j C hi hj li lj := by
    simp only [Ghost.addB] at hi hj
    split at hi <;> split at hj
    · omega
    · cases hi; exact absurd hs (h.bxs j B hj).2.1
    · cases hj; exact absurd hs (h.bxs i B hi).2.1
    · exact h.inj i j C hi hj (live_append (h.bxs i C hi).1 li) (live_append (h.bxs j C hj).1 lj)
  ats t k C E e := by
    obtain ⟨h1, h2, h3⟩ := h.ats t k C E e
    rw [List.length_append, List.length_singleton]
    refine ⟨by omega, ?_, fun i => ?_⟩
    · simp only [Ghost.addB]
      split
      · simp
      · exact h2
    · simp only [Ghost.addB]
      split
      · intro q; cases q; exact absurd hs h2
      · exact fun q => dead_append (h3 i q)
  obj i x e := by
    rcases Nat.lt_or_ge i H.length with hlt | hge
    · rw [List.getElem?_append_left hlt] at e
      exact ORel.ext h (h.adopt_le hs n) (fun _ _ _ _ => rfl) (fun _ _ _ => rfl) (h.obj i x e)
    · rw [List.getElem?_append_right hge] at e
      have : i = H.length := by
        have := (List.getElem?_eq_some_iff.1 e).1
        simp at this; omega
      subst this
      simp at e
      subst e
      exact ho
  cur t t' k k' C E E' e e' a a' := by
    have key : ∀ (t k : Nat), (H ++ [o])[t]? = some (AObj.row k) → H[t]? = some (AObj.row k) := by
      intro t k e
      rcases Nat.lt_or_ge t H.length with hlt | hge
      · rwa [List.getElem?_append_left hlt] at e
      · rw [List.getElem?_append_right hge] at e
        have : t - H.length = 0 := by
          have := (List.getElem?_eq_some_iff.1 e).1
          simp at this; omega
        simp [this] at e
        exact absurd e (hrow k)
    exact h.cur t t' k k' C E E' (key t k e) (key t' k' e') a a' }

/-- A new box of cells. -/
theorem HInv.newBox (h : HInv W0 H G w) (cs : List AV) (vs : List Value) (ty : TypeId) (hv : VRels G cs vs) (h1 : ∀ c ∈ cs, c.one = true) :
    ∃ G', Next G w G' (w.alloc (.cells vs.toArray ty)) ∧ HInv W0 (H ++ [.cells cs]) G' (w.alloc (.cells vs.toArray ty)) ∧ G'.bx H.length = some w.heap.size ∧ G'.sz w.heap.size = some vs.length := by
  refine ⟨G.addB H.length w.heap.size vs.length, h.addB_next _ _, h.addB (.cells cs) _ _ (by simp) ?_, by simp [Ghost.addB], by simp [Ghost.addB]⟩
  refine ⟨w.heap.size, vs.toArray, ty, (0, 0), by simp [Ghost.addB], heap_push_new, by simp [Ghost.addB], by simp, by simp [hv.1], fun j hj => ⟨?_, ?_⟩⟩
  · rw [List.getD_eq_getElem?_getD, List.getElem?_eq_getElem hj]
    exact h1 _ (List.getElem_mem hj)
  · simpa using (hv.2 j hj).mono (h.addB_le _)

/-- A new box with room behind its cells. -/
theorem HInv.newBoxRoom (h : HInv W0 H G w) (cs : List AV) (vs : Array Value) (ty : TypeId) (fz : Nat × Nat) (hf : ∀ o, o < vs.size → ¬ (fz.1 ≤ o ∧ o < fz.2)) (hl : cs.length ≤ vs.size) (hv : ∀ j, j < cs.length → VRel G (cs.getD j .any) (vs.toList.getD j undef)) (h1 : ∀ c ∈ cs, c.one = true) :
    ∃ G', Next G w G' (w.alloc (.cells vs ty fz)) ∧ HInv W0 (H ++ [.cells cs]) G' (w.alloc (.cells vs ty fz)) ∧ G'.bx H.length = some w.heap.size ∧ G'.sz w.heap.size = some vs.size := by
  refine ⟨G.addB H.length w.heap.size vs.size, h.addB_next _ _, h.addB (.cells cs) _ _ (by simp) ?_, by simp [Ghost.addB], by simp [Ghost.addB]⟩
  refine ⟨w.heap.size, vs, ty, fz, by simp [Ghost.addB], heap_push_new, by simp [Ghost.addB], hf, hl, fun j hj => ⟨?_, (hv j hj).mono (h.addB_le _)⟩⟩
  rw [List.getD_eq_getElem?_getD, List.getElem?_eq_getElem hj]
  exact h1 _ (List.getElem_mem hj)

/-! ### Rows -/
theorem HInv.addR_le (h : HInv W0 H G w) (n : Nat) (c : Nat → Option Value) (m : Nat) (E : Option Nat) : G.le (G.addR w.heap.size n c H.length m E) := {
  bx _ _ e := e
  imm B o v e := by
    have := h.immLt e
    simp only [Ghost.addR]; rw [if_neg (by omega)]; exact e
  at_ t k x e := by
    have : t < H.length := (h.ats t k x.1 x.2 e).1
    simp only [Ghost.addR]; rw [if_neg (by omega)]; exact e
  sz B k e := by
    have := (h.lt B k e).2
    simp only [Ghost.addR]; rw [if_neg (by omega)]; exact e
  immf B o v e := by
    simp only [Ghost.addR] at e ⊢
    split at e
    · exact .inr (by simp [*])
    · exact .inl e }

theorem HInv.addR_next (h : HInv W0 H G w) (ob : Obj) (n : Nat) (c : Nat → Option Value) (m : Nat) (E : Option Nat) : Next G w (G.addR w.heap.size n c H.length m E) (w.alloc ob) := {
  le := h.addR_le n c m E
  size := by rw [alloc_size]; omega
  keep B hB _ := heap_push_lt hB
  fresh B k e := by
    simp only [Ghost.addR] at e
    split at e
    · exact .inr (by omega)
    · exact .inl e }

/-- The parts that a new row's block and its token share. -/
theorem HInv.addR (h : HInv W0 H G w) (vs : Array Value) (ty : TypeId) (fz : Nat × Nat) (K m : Nat) (hK : K ≤ vs.size) (tok : Bool) (hf : tok = true → ∀ o, K ≤ o → o < vs.size → ¬ (fz.1 ≤ o ∧ o < fz.2)) :
    HInv W0 (if tok then H ++ [.row m] else H) (G.addR w.heap.size vs.size (fun o => if o < K then vs[o]? else none) H.length m (if tok then some K else none)) (w.alloc (.cells vs ty fz)) := by
  have hlen : H.length ≤ (if tok then H ++ [AObj.row m] else H).length := by split <;> simp
  have hlv : ∀ i, i < H.length → (if tok then H ++ [AObj.row m] else H)[i]? ≠ some AObj.dead → H[i]? ≠ some AObj.dead := fun i hi => by
    cases tok
    · exact id
    · exact live_append hi
  have hdd : ∀ i, H[i]? = some AObj.dead → (if tok then H ++ [AObj.row m] else H)[i]? = some AObj.dead := fun i => by
    cases tok
    · exact id
    · exact dead_append
  refine { base := h.base.alloc h.base.size _, lt := ?_, imm := ?_, bxs := ?_, inj := fun i j B hi hj li lj => h.inj i j B hi hj (hlv i (h.bxs i B hi).1 li) (hlv j (h.bxs j B hj).1 lj), ats := ?_, obj := ?_, cur := ?_ }
  · intro B k e
    rw [alloc_size]
    simp only [Ghost.addR] at e
    split at e
    · have := h.base.size; subst B; omega
    · have := h.lt B k e; omega
  · intro B o v e
    simp only [Ghost.addR] at e ⊢
    by_cases hB : B = w.heap.size
    · rw [if_pos hB] at e
      subst hB
      refine ⟨by simp, ?_⟩
      split at e
      · simp only [World.cell?, heap_push_new]; simpa using e
      · cases e
    · rw [if_neg hB] at e
      obtain ⟨h1, h2⟩ := h.imm B o v e
      rw [if_neg hB]
      exact ⟨h1, (cell_of_heap (heap_push_lt (h.immLt e)) o).trans h2⟩
  · intro i B e
    obtain ⟨h1, h2, h3⟩ := h.bxs i B e
    have hB : B ≠ w.heap.size := fun q => h2 (q ▸ h.nosz (Nat.le_refl _))
    simp only [Ghost.addR]
    rw [if_neg hB]
    refine ⟨by omega, h2, fun q o => ?_⟩
    rw [if_neg hB]; exact h3 (hlv i h1 q) o
  · intro t k B E e
    simp only [Ghost.addR] at e ⊢
    by_cases hc : t = H.length ∧ k = m ∧ (if tok = true then some K else none).isSome = true
    · rw [if_pos hc] at e
      obtain ⟨rfl, rfl, ht⟩ := hc
      cases tok
      · simp at ht
      · simp at e
        obtain ⟨rfl, rfl⟩ := e
        exact ⟨by simp, by simp, fun i q => absurd q (h.nobxB (Nat.le_refl _) i)⟩
    · rw [if_neg hc] at e
      obtain ⟨h1, h2, h3⟩ := h.ats t k B E e
      have hB : B ≠ w.heap.size := fun q => h2 (q ▸ h.nosz (Nat.le_refl _))
      rw [if_neg hB]
      exact ⟨by omega, h2, fun i q => hdd i (h3 i q)⟩
  · intro i x e
    have old : H[i]? = some x → ORel (G.addR w.heap.size vs.size (fun o => if o < K then vs[o]? else none) H.length m (if tok then some K else none)) (w.alloc (.cells vs ty fz)) i x := fun e =>
      ORel.ext h (h.addR_le _ _ _ _) (fun B k o hB => by
        have := (h.lt B k hB).2
        simp only [Ghost.addR]; rw [if_neg (by omega)]) (fun B m hB => heap_push_lt (h.lt B m hB).2) (h.obj i x e)
    cases tok with
    | false => exact old e
    | true =>
      simp only [if_true] at e
      rcases Nat.lt_or_ge i H.length with hlt | hge
      · rw [List.getElem?_append_left hlt] at e
        exact old e
      · rw [List.getElem?_append_right hge] at e
        have : i = H.length := by
          have := (List.getElem?_eq_some_iff.1 e).1
          simp at this; omega
        subst this
        simp at e
        subst e
        refine ⟨w.heap.size, K, vs, ty, fz, by simp [Ghost.addR], heap_push_new, by simp [Ghost.addR], hK, fun o ho => ?_, hf rfl⟩
        simp only [Ghost.addR, if_true]; rw [if_neg (by omega)]
  · intro t t' k k' B E E' e e' a a'
    have key : ∀ t k B E, (if tok then H ++ [AObj.row m] else H)[t]? = some (.row k) → (G.addR w.heap.size vs.size (fun o => if o < K then vs[o]? else none) H.length m (if tok then some K else none)).at_ t k = some (B, E) →
        (t = H.length ∧ B = w.heap.size) ∨ (t < H.length ∧ H[t]? = some (.row k) ∧ G.at_ t k = some (B, E) ∧ B ≠ w.heap.size) := by
      intro t k B E e a
      rcases Nat.lt_or_ge t H.length with hlt | hge
      · right
        have e2 : H[t]? = some (.row k) := by
          cases tok
          · exact e
          · simpa [List.getElem?_append_left hlt] using e
        simp only [Ghost.addR] at a
        rw [if_neg (by omega)] at a
        exact ⟨hlt, e2, a, fun q => h.noatB (Nat.le_refl _) t k E (q ▸ a)⟩
      · left
        cases tok
        · simp at e
          have := (List.getElem?_eq_some_iff.1 e).1
          omega
        · simp only [if_true] at e
          rw [List.getElem?_append_right hge] at e
          have ht : t = H.length := by
            have := (List.getElem?_eq_some_iff.1 e).1
            simp at this; omega
          subst ht
          simp at e
          subst e
          simp [Ghost.addR] at a
          exact ⟨rfl, a.1.symm⟩
    rcases key t k B E e a with ⟨p, q⟩ | ⟨p, q, r, s⟩ <;> rcases key t' k' B E' e' a' with ⟨p', q'⟩ | ⟨p', q', r', s'⟩
    · omega
    · exact absurd q s'
    · exact absurd q' s
    · exact h.cur t t' k k' B E E' q q' r r'
end Go.Qa
