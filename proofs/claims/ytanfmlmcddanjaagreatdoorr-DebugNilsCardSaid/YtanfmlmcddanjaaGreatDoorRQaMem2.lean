/- The abstract machine, part 3: stores into boxes, and rows that grow in place. -/
import Derived.Test.YtanfmlmcddanjaaGreatDoorRQaMem
set_option linter.all false
namespace Go.Qa
open Go Go.RowKit
variable {W0 : World} {H : AHeap} {G G' : Ghost} {w w' : World}

/-- Some of a list written over. -/
def over {α : Type} (cs : List α) (o : Nat) (ns : List α) : List α := cs.take o ++ ns ++ cs.drop (o + ns.length)
theorem over_length {α : Type} {cs : List α} {o : Nat} {ns : List α} (h : o + ns.length ≤ cs.length) : (over cs o ns).length = cs.length := by
  simp [over]; omega
theorem over_get {α : Type} {cs : List α} {o : Nat} {ns : List α} (h : o + ns.length ≤ cs.length) (j : Nat) :
    (over cs o ns)[j]? = if o ≤ j ∧ j < o + ns.length then ns[j - o]? else cs[j]? := by
  unfold over
  rw [List.getElem?_append, List.getElem?_append]
  simp only [List.length_append, List.length_take]
  by_cases h1 : j < o
  · rw [if_pos (by omega), if_pos (by omega), if_neg (by omega), List.getElem?_take_of_lt h1]
  · by_cases h2 : j < o + ns.length
    · rw [if_pos (by omega), if_neg (by omega), if_pos (by omega), show min o cs.length = o by omega]
    · rw [if_neg (by omega), if_neg (by omega), List.getElem?_drop]
      congr 1; omega
theorem over_getD {α : Type} {cs : List α} {o : Nat} {ns : List α} (h : o + ns.length ≤ cs.length) (j : Nat) (d : α) :
    (over cs o ns).getD j d = if o ≤ j ∧ j < o + ns.length then ns.getD (j - o) d else cs.getD j d := by
  simp only [List.getD_eq_getElem?_getD, over_get h]
  split <;> rfl
theorem over_nil {α : Type} (cs : List α) (o : Nat) : over cs o [] = cs := by simp [over]
theorem over_cons {α : Type} {cs : List α} {o : Nat} {n : α} {ns : List α} (h : o + (ns.length + 1) ≤ cs.length) : over cs o (n :: ns) = over (cs.set o n) (o + 1) ns := by
  apply List.ext_getElem?
  intro j
  rw [over_get (by simpa using h), over_get (by simp; omega), List.getElem?_set]
  simp only [List.length_cons]
  by_cases h1 : j = o
  · subst h1
    rw [if_pos (by omega), if_neg (by omega), if_pos rfl, if_pos (by omega)]; simp
  · by_cases h2 : o + 1 ≤ j ∧ j < o + 1 + ns.length
    · rw [if_pos (by omega), if_pos h2, show j - o = (j - (o + 1)) + 1 by omega, List.getElem?_cons_succ]
    · rw [if_neg (by omega), if_neg h2, if_neg (by omega)]

theorem heap_setCells_ne (b : Nat) : ∀ (vs : List Value) (o : Nat) (w : World) (k : Nat), k ≠ b → (w.setCells b o vs).heap[k]? = w.heap[k]?
  | [], _, _, _, _ => rfl
  | v :: r, o, w, k, h => by
    rw [World.setCells, heap_setCells_ne b r (o + 1) _ k h]
    exact Below.heap_setCell w _ v k h
theorem size_setCells (b : Nat) : ∀ (vs : List Value) (o : Nat) (w : World), (w.setCells b o vs).heap.size = w.heap.size
  | [], _, _ => rfl
  | _ :: r, o, _ => by rw [World.setCells, size_setCells b r]; simp [World.setCell]
theorem heap_setCells_at (b : Nat) (ty : TypeId) (fz : Nat × Nat) : ∀ (vs : List Value) (o : Nat) (w : World) (c : List Value), w.heap[b]? = some (.cells c.toArray ty fz) → o + vs.length ≤ c.length →
    (w.setCells b o vs).heap[b]? = some (.cells (over c o vs).toArray ty fz)
  | [], o, w, c, h, _ => by rw [World.setCells, over_nil]; exact h
  | v :: r, o, w, c, h, hl => by
    have hlt : b < w.heap.size := (Array.getElem?_eq_some_iff.1 h).1
    have h1 : (w.setCell ⟨b, o, none⟩ v).heap[b]? = some (.cells (c.set o v).toArray ty fz) := by
      simp only [World.setCell, Array.getElem?_modify, if_true, h, Option.map_some]
      simp
    rw [World.setCells, heap_setCells_at b ty fz r (o + 1) _ _ h1 (by simp at hl ⊢; omega), over_cons (by simpa [Nat.add_comm] using hl)]
theorem Below.setCells {B : Nat} {a : World} (b : Nat) (hb : B ≤ b) : ∀ (vs : List Value) (o : Nat) (w : World), Below B a w → Below B a (w.setCells b o vs)
  | [], _, _, h => h
  | v :: r, o, w, h => Below.setCells b hb r (o + 1) _ (h.setCell hb v)

theorem Next.setCells {G0 : Ghost} {w0 : World} (h : Next G0 w0 G w) (b n o : Nat) (vs : List Value) (hb : G.sz b = some n) : Next G0 w0 G (w.setCells b o vs) := {
  le := h.le
  size := by rw [size_setCells]; exact h.size
  keep B hB hn := by
    have : B ≠ b := by
      rintro rfl
      rcases h.fresh B n hb with q | q
      · rw [q] at hn; cases hn
      · omega
    exact (heap_setCells_ne b vs o w B this).trans (h.keep B hB hn)
  fresh := h.fresh }

/-- A store into a box. -/
theorem HInv.store (h : HInv W0 H G w) (b B o : Nat) (cs ns : List AV) (nvs : List Value) (hb : H[b]? = some (.cells cs)) (hB : G.bx b = some B)
    (hl : o + ns.length ≤ cs.length) (hv : VRels G ns nvs) (h1 : ∀ c ∈ ns, c.one = true) :
    HInv W0 (H.set b (.cells (over cs o ns))) G (w.setCells B o nvs) := by
  obtain ⟨B', vs, ty, fz, hB', hh, hs, hfz, hle, hcv⟩ := h.obj b _ hb
  rw [hB] at hB'
  cases hB'
  have hlen : nvs.length = ns.length := hv.1
  have hh' : (w.setCells B o nvs).heap[B]? = some (.cells (over vs.toList o nvs).toArray ty fz) :=
    heap_setCells_at B ty fz nvs o w vs.toList (by simpa using hh) (by simp; omega)
  have hblen : b < H.length := (List.getElem?_eq_some_iff.1 hb).1
  have hlb : H[b]? ≠ some AObj.dead := by rw [hb]; simp
  have hlv : ∀ i, (H.set b (.cells (over cs o ns)))[i]? ≠ some AObj.dead → H[i]? ≠ some AObj.dead := fun i => live_set hb (by simp)
  refine { base := ?_, lt := ?_, imm := ?_, bxs := ?_, inj := fun i j C hi hj li lj => h.inj i j C hi hj (hlv i li) (hlv j lj), ats := ?_, obj := ?_, cur := ?_ }
  · exact Below.setCells B (h.lt B _ hs).1 nvs o w h.base
  · intro C n e; rw [size_setCells]; exact h.lt C n e
  · intro C p v e
    obtain ⟨q, r⟩ := h.imm C p v e
    refine ⟨q, ?_⟩
    have : C ≠ B := by rintro rfl; rw [(h.bxs b _ hB).2.2 hlb p] at e; cases e
    exact (cell_of_heap (heap_setCells_ne B nvs o w C this) p).trans r
  · intro i C e
    obtain ⟨q1, q2, q3⟩ := h.bxs i C e
    rw [List.length_set]; exact ⟨q1, q2, fun z => q3 (hlv i z)⟩
  · intro t n C E e
    obtain ⟨q1, q2, q3⟩ := h.ats t n C E e
    rw [List.length_set]; exact ⟨q1, q2, fun i z => dead_set hb (by simp) (q3 i z)⟩
  · intro i x e
    by_cases hi : b = i
    · subst hi
      rw [List.getElem?_set_self hblen] at e
      cases e
      refine ⟨B, (over vs.toList o nvs).toArray, ty, fz, hB, hh', ?_, fun p hp => hfz p (by simp at hp; rw [over_length (by simp; omega)] at hp; simpa using hp), ?_, fun j hj => ?_⟩
      · rw [hs]; simp; rw [over_length (by simp; omega)]; simp
      · rw [over_length hl]; simp; rw [over_length (by simp; omega)]; simpa using hle
      · rw [over_length hl] at hj
        rw [over_getD hl, over_getD (by simp; omega), hlen]
        split
        · rename_i hr
          refine ⟨?_, hv.2 _ (by omega)⟩
          rw [List.getD_eq_getElem?_getD, List.getElem?_eq_getElem (by omega)]
          exact h1 _ (List.getElem_mem _)
        · exact hcv j hj
    · rw [List.getElem?_set_ne hi] at e
      have ho := h.obj i x e
      have hne : x ≠ AObj.dead → ∀ C, G.bx i = some C → C ≠ B := fun hx C hC q => hi (h.inj b i B hB (q ▸ hC) hlb (by rw [e]; simpa using hx))
      cases x with
      | cells cs' =>
        obtain ⟨C, vs', ty', fz', p1, p2, p3, p4, p5⟩ := ho
        exact ⟨C, vs', ty', fz', p1, (heap_setCells_ne B nvs o w C (hne (by simp) C p1)).trans p2, p3, p4, p5⟩
      | row n =>
        obtain ⟨C, E, vs', ty', fz, p1, p2, p3⟩ := ho
        have : C ≠ B := fun q => hlb ((h.ats i n C E p1).2.2 b (q ▸ hB))
        exact ⟨C, E, vs', ty', fz, p1, (heap_setCells_ne B nvs o w C this).trans p2, p3⟩
      | map es clock =>
        obtain ⟨C, ms, p1, p2, p3⟩ := ho
        exact ⟨C, ms, p1, (heap_setCells_ne B nvs o w C (hne (by simp) C p1)).trans p2, p3⟩
      | iter m since seen stepped =>
        obtain ⟨C, p1, mB, p2, p3⟩ := ho
        exact ⟨C, p1, mB, (heap_setCells_ne B nvs o w C (hne (by simp) C p1)).trans p2, p3⟩
      | siter s pos =>
        obtain ⟨C, p1, p2⟩ := ho
        exact ⟨C, p1, (heap_setCells_ne B nvs o w C (hne (by simp) C p1)).trans p2⟩
      | loop busy ss ps asg body pend =>
        obtain ⟨C, r, p1, p2, p3⟩ := ho
        exact ⟨C, r, p1, (heap_setCells_ne B nvs o w C (hne (by simp) C p1)).trans p2, p3⟩
      | dead => exact trivial
  · have key : ∀ (t k : Nat), (H.set b (AObj.cells (over cs o ns)))[t]? = some (AObj.row k) → H[t]? = some (AObj.row k) := by
      intro t k e
      by_cases hi : b = t
      · subst hi; rw [List.getElem?_set_self hblen] at e; cases e
      · rwa [List.getElem?_set_ne hi] at e
    intro t t' n n' C E E' e e' a a'
    exact h.cur t t' n n' C E E' (key t n e) (key t' n' e') a a'

/-- A row that grows in its own block; its old token is dead. -/
def Ghost.grow (G : Ghost) (B E : Nat) (ns : List Value) (t m : Nat) : Ghost :=
  { G with imm := fun C o => if C = B ∧ E ≤ o ∧ o < E + ns.length then ns[o - E]? else G.imm C o,
           at_ := fun t' n' => if t' = t ∧ n' = m then some (B, E + ns.length) else G.at_ t' n' }

theorem HInv.grow (h : HInv W0 H G w) (t n B E m : Nat) (vs : List Value) (ty : TypeId) (fz : Nat × Nat) (ns : List Value) (ht : H[t]? = some (.row n)) (ha : G.at_ t n = some (B, E))
    (hh : w.heap[B]? = some (.cells vs.toArray ty fz)) (hl : E + ns.length ≤ vs.length) :
    HInv W0 (H.set t AObj.dead ++ [.row m]) (G.grow B E ns H.length m) (w.setCells B E ns) ∧ G.le (G.grow B E ns H.length m) ∧ G.sz B = some vs.length := by
  obtain ⟨B', E', vs', ty', fz', ha', hh2, hs, hE, hn, hf⟩ := h.obj t _ ht
  rw [ha] at ha'
  cases ha'
  rw [hh] at hh2
  cases hh2
  have hs' : G.sz B = some vs.length := by simpa using hs
  have htlen : t < H.length := (List.getElem?_eq_some_iff.1 ht).1
  have hlen : (H.set t AObj.dead ++ [AObj.row m]).length = H.length + 1 := by simp
  have hle : G.le (G.grow B E ns H.length m) := by
    refine ⟨fun _ _ e => e, fun C o v e => ?_, fun t' k x e => ?_, fun _ _ e => e, fun C o v e => ?_⟩
    rotate_left 2
    · simp only [Ghost.grow] at e
      split at e
      · rename_i q; rw [q.1]; exact .inr (by simp [Ghost.grow, hs'])
      · exact .inl e
    · simp only [Ghost.grow]
      rw [if_neg]; · exact e
      rintro ⟨rfl, q, _⟩
      rw [hn o q] at e; cases e
    · have : t' < H.length := (h.ats t' k x.1 x.2 e).1
      simp only [Ghost.grow]; rw [if_neg (by omega)]; exact e
  have hh' : (w.setCells B E ns).heap[B]? = some (.cells (over vs E ns).toArray ty fz) := heap_setCells_at B ty fz ns E w vs hh hl
  refine ⟨?_, hle, hs'⟩
  have hlv : ∀ i, i < H.length → (H.set t AObj.dead ++ [AObj.row m])[i]? ≠ some AObj.dead → H[i]? ≠ some AObj.dead := fun i hi z => by
    have z2 := live_append (l := [AObj.row m]) (H := H.set t AObj.dead) (i := i) (by simpa using hi) z
    by_cases e : t = i
    · subst e; rw [ht]; simp
    · rwa [List.getElem?_set_ne e] at z2
  have hdd : ∀ i, H[i]? = some AObj.dead → (H.set t AObj.dead ++ [AObj.row m])[i]? = some AObj.dead := fun i z => dead_append (dead_set ht (by simp) z)
  refine { base := ?_, lt := ?_, imm := ?_, bxs := ?_, inj := fun i j C hi hj li lj => h.inj i j C hi hj (hlv i (h.bxs i C hi).1 li) (hlv j (h.bxs j C hj).1 lj), ats := ?_, obj := ?_, cur := ?_ }
  · exact Below.setCells B (h.lt B _ hs').1 ns E w h.base
  · intro C k e; rw [size_setCells]; exact h.lt C k e
  · intro C o v e
    have at' : ∀ o, (w.setCells B E ns).cell? ⟨B, o, none⟩ = (over vs E ns)[o]? := fun o => by
      simp only [World.cell?, hh']; simp
    have at0 : ∀ o, w.cell? ⟨B, o, none⟩ = vs[o]? := fun o => by
      simp only [World.cell?, hh]; simp
    simp only [Ghost.grow] at e
    by_cases hc : C = B ∧ E ≤ o ∧ o < E + ns.length
    · rw [if_pos hc] at e
      obtain ⟨rfl, q1, q2⟩ := hc
      refine ⟨by simp [Ghost.grow, hs'], ?_⟩
      rw [at', over_get hl, if_pos ⟨q1, q2⟩]
      exact e
    · rw [if_neg hc] at e
      obtain ⟨q, r⟩ := h.imm C o v e
      refine ⟨q, ?_⟩
      by_cases hC : C = B
      · subst hC
        have : o < E := by
          rcases Nat.lt_or_ge o E with z | z
          · exact z
          · rw [hn o z] at e; cases e
        rw [at0] at r
        rw [at', over_get hl, if_neg (by omega)]
        exact r
      · exact (cell_of_heap (heap_setCells_ne B ns E w C hC) o).trans r
  · intro i C e
    rw [hlen]
    obtain ⟨p, q, r⟩ := h.bxs i C e
    refine ⟨by omega, q, fun z o => ?_⟩
    have z := hlv i p z
    simp only [Ghost.grow]
    rw [if_neg]; · exact r z o
    rintro ⟨rfl, _⟩
    exact z ((h.ats t n C E ha).2.2 i e)
  · intro t' k C E' e
    rw [hlen]
    simp only [Ghost.grow] at e
    split at e
    · rename_i hc
      cases e
      exact ⟨by omega, by simp [Ghost.grow, hs'], fun i z => hdd i ((h.ats t n B E ha).2.2 i z)⟩
    · obtain ⟨p, q, r⟩ := h.ats t' k C E' e
      exact ⟨by omega, q, fun i z => hdd i (r i z)⟩
  · intro i x e
    rcases Nat.lt_or_ge i H.length with hlt | hge
    · rw [List.getElem?_append_left (by simpa using hlt)] at e
      by_cases hi : t = i
      · subst hi
        rw [List.getElem?_set_self htlen] at e
        cases e
        exact trivial
      · rw [List.getElem?_set_ne hi] at e
        have ho := h.obj i x e
        have hne : x ≠ AObj.dead → ∀ C, G.bx i = some C → C ≠ B := fun hx C hC q => by
          have := (h.ats t n B E ha).2.2 i (q ▸ hC)
          rw [e] at this
          exact hx (Option.some.inj this)
        cases x with
        | cells cs' =>
          obtain ⟨C, vs', ty', fz', p1, p2, p3, p3', p4, p5⟩ := ho
          exact ⟨C, vs', ty', fz', p1, (heap_setCells_ne B ns E w C (hne (by simp) C p1)).trans p2, p3, p3', p4, fun j hj => ⟨(p5 j hj).1, (p5 j hj).2.mono hle⟩⟩
        | row k =>
          obtain ⟨C, E', vs', ty', fz, p1, p2, p3, p4, p5, p6⟩ := ho
          have hC : C ≠ B := by rintro rfl; exact hi (h.cur t i n k C E E' ht e ha p1)
          refine ⟨C, E', vs', ty', fz, hle.at_ _ _ _ p1, (heap_setCells_ne B ns E w C hC).trans p2, p3, p4, fun o ho => ?_, p6⟩
          simp only [Ghost.grow]
          rw [if_neg (by rintro ⟨q, _⟩; exact hC q)]
          exact p5 o ho
        | map es clock =>
          obtain ⟨C, ms, p1, p2, p3, p4⟩ := ho
          refine ⟨C, ms, p1, (heap_setCells_ne B ns E w C (hne (by simp) C p1)).trans p2, p3, fun j hj => ?_⟩
          obtain ⟨a, b, c, d, f, g, i⟩ := p4 j hj
          exact ⟨a, b, c, d, f.mono hle, g.mono hle, i⟩
        | iter mm since seen stepped =>
          obtain ⟨C, p1, mB, p2, p3⟩ := ho
          exact ⟨C, p1, mB, (heap_setCells_ne B ns E w C (hne (by simp) C p1)).trans p2, p3⟩
        | siter s pos =>
          obtain ⟨C, p1, p2⟩ := ho
          exact ⟨C, p1, (heap_setCells_ne B ns E w C (hne (by simp) C p1)).trans p2⟩
        | loop busy ss ps asg body pend =>
          obtain ⟨C, r, p1, p2, p3, p4, p5, p6, p7, p8⟩ := ho
          exact ⟨C, r, p1, (heap_setCells_ne B ns E w C (hne (by simp) C p1)).trans p2, p3, p4, p5, p6, p7, p8.mono hle⟩
        | dead => exact trivial
    · rw [List.getElem?_append_right (by simpa using hge)] at e
      have : i = H.length := by
        have := (List.getElem?_eq_some_iff.1 e).1
        simp at this; omega
      subst this
      simp at e
      subst e
      refine ⟨B, E + ns.length, (over vs E ns).toArray, ty, fz, by simp [Ghost.grow], hh', by simp [Ghost.grow, hs', over_length hl], by simp [over_length hl]; omega, fun o ho => ?_, fun o ho ho2 => ?_⟩
      · simp only [Ghost.grow]
        rw [if_neg (by omega)]
        exact hn o (by omega)
      · exact hf o (by omega) (by simpa [over_length hl] using ho2)
  · have key : ∀ (t' k C E' : Nat), (H.set t AObj.dead ++ [AObj.row m])[t']? = some (AObj.row k) → (G.grow B E ns H.length m).at_ t' k = some (C, E') →
        (t' = H.length ∧ C = B) ∨ (t' ≠ t ∧ t' < H.length ∧ H[t']? = some (AObj.row k) ∧ G.at_ t' k = some (C, E')) := by
      intro t' k C E' e a
      rcases Nat.lt_or_ge t' H.length with hlt | hge
      · right
        rw [List.getElem?_append_left (by simpa using hlt)] at e
        simp only [Ghost.grow] at a
        rw [if_neg (by omega)] at a
        by_cases hi : t = t'
        · subst hi
          rw [List.getElem?_set_self htlen] at e; cases e
        · rw [List.getElem?_set_ne hi] at e
          exact ⟨fun q => hi q.symm, hlt, e, a⟩
      · left
        rw [List.getElem?_append_right (by simpa using hge)] at e
        have ht' : t' = H.length := by
          have := (List.getElem?_eq_some_iff.1 e).1
          simp at this; omega
        subst ht'
        simp at e
        subst e
        simp [Ghost.grow] at a
        exact ⟨rfl, a.1.symm⟩
    intro t1 t2 k k' C E1 E2 e e' a a'
    rcases key t1 k C E1 e a with ⟨p, q⟩ | ⟨p, q, r, s⟩ <;> rcases key t2 k' C E2 e' a' with ⟨p', q'⟩ | ⟨p', q', r', s'⟩
    · omega
    · subst q; exact absurd (h.cur t t2 n k' C E E2 ht r' ha s') (Ne.symm p')
    · subst q'; exact absurd (h.cur t t1 n k C E E1 ht r ha s) (Ne.symm p)
    · exact h.cur t1 t2 k k' C E1 E2 r r' s s'
end Go.Qa
