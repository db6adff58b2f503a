/- The abstract machine: blocks that are made ahead of the abstract heap: by which operations; what is asked. -/
import Derived.Test.YtanfmlmcddanjaaGreatDoorRQaCode
import Derived.Test.YtanfmlmcddanjaaGreatDoorRQaPend
set_option linter.all false
namespace Go.Qa
open Go Go.RowKit

/-- An operation that makes a block. -/
inductive APend where
  | cells (zero : List AV)
  | box (x : Opd)
  | map
  | arr (esz bytes : Nat) (zero : List AV) (len cap : Opd)
  deriving Inhabited
def APend.obj (p : APend) (st : AS) : Option PObj :=
  match p with
  | .cells zero => some (.cells zero)
  | .box x => (st.ev x).cells?.map .cells
  | .map => some .map
  | .arr esz bytes zero len cap => match st.ev len, st.ev cap with
    | .int _ l, .int _ c => if 0 ≤ l ∧ l ≤ c ∧ c.toNat * bytes ≤ roomMax ∧ c.toNat ≤ maxLen then some (.arr l.toNat c.toNat esz (made zero (c.toNat * esz))) else none
    | _, _ => none
def APend.wp (p : APend) (t : Nat) (K : AS → AHeap → Prop) (st : AS) (H : AHeap) : Prop :=
  match p.obj st with
  | some o => K (st.pend t o) H
  | none => False
def cPend (P : Program) (N : Nat) (o : Oper) : Option APend :=
  match o.op with
  | .alloc t => (P.info? t).bind fun i => i.zero.bind fun z => (z.cells.toList.mapM AV.ofCell).map fun cs => .cells cs
  | .box t x => (cOpd N x).map fun x => .box x
  | .makeMap _ none => some .map
  | .makeSlice t l c => match P.underlying t with
    | some (.slice e) => (P.info? e).bind fun i => i.zero.bind fun z => (z.cells.toList.mapM AV.ofCell).bind fun zc => if z.cells.size = i.size then
        (cOpd N l).bind fun l => (cOpd N c).map fun c => .arr i.size i.bytes zc l c else none
    | _ => none
  | _ => none
def pubWp : List Nat → (AS → AHeap → Prop) → AS → AHeap → Prop
  | [], K, st, H => K st H
  | t :: r, K, st, H => match st.pnd t with
    | some o => pubWp r K (st.pub t o H.length) (H ++ [o.obj])
    | none => False

section
variable {W0 : World} {G0 : Ghost} {w0 : World} {N : Nat} {G G' : Ghost} {L : Nat → Option Nat} {st : AS} {H H' : AHeap} {ca : Act} {w w' : World} {P : Program}
variable {o : Oper} {K : AS → AHeap → Prop} {Q : Exit → Act → World → Prop}

theorem pub_sound : ∀ (l : List Nat) {G : Ghost} {st : AS} {H : AHeap}, Rel W0 G0 w0 N G L st H ca w → pubWp l K st H → ∃ G' st' H', Rel W0 G0 w0 N G' L st' H' ca w ∧ K st' H'
  | [], G, st, H, h, k => ⟨G, st, H, h, k⟩
  | t :: r, G, st, H, h, k => by
    simp only [pubWp] at k
    split at k
    · rename_i o ho
      obtain ⟨G', h'⟩ := h.pub ho
      exact pub_sound r h' k
    · exact k.elim

theorem made_rel {z : Value} {zc : List AV} {n m : Nat} (hzc : z.cells.toList.mapM AV.ofCell = some zc) (hzs : z.cells.size = m) : VRels G (made zc (n * m)) (madeCells z.cells (n * m)).toList ∧ ∀ c ∈ made zc (n * m), c.one = true := by
  obtain ⟨hzr, hz1⟩ := mapM_cells (G := G) hzc
  have hzl : zc.length = m := by rw [← hzr.1]; simpa using hzs
  have hnz : ∀ j, j < n * m → j % m < m := fun j hj => Nat.mod_lt _ (by
    rcases Nat.eq_zero_or_pos m with q | q
    · rw [q] at hj; simp at hj
    · exact q)
  refine ⟨⟨by simp [made, madeCells], fun j hj => ?_⟩, fun c' hc' => ?_⟩
  · have hj2 : j < n * m := by simpa [made] using hj
    have := hzr.2 (j % m) (by rw [hzl]; exact hnz j hj2)
    rw [List.getD_eq_getElem?_getD (l := made zc _), List.getD_eq_getElem?_getD (l := Array.toList _)]
    simp only [made, madeCells, List.getElem?_map, List.getElem?_range hj2, Option.map_some, Option.getD_some, hzl, Array.toList_map, Array.toList_range, hzs]
    have e3 : z.cells[j % m]! = z.cells.toList.getD (j % m) undef := by
      have hlt : j % m < z.cells.size := by rw [hzs]; exact hnz j hj2
      rw [getElem!_pos z.cells _ hlt, List.getD_eq_getElem?_getD]
      simp [hlt]
    rw [e3]
    exact this
  · simp only [made, List.mem_map, List.mem_range] at hc'
    obtain ⟨j, hj, rfl⟩ := hc'
    have hlt : j % zc.length < zc.length := by rw [hzl]; exact hnz j hj
    rw [List.getD_eq_getElem?_getD, List.getElem?_eq_getElem hlt]
    exact hz1 _ (List.getElem_mem _)

theorem pend_sound (h : Rel W0 G0 w0 N G L st H ca w) {p : APend} (hc : cPend P N o = some p) {t : Nat} (hd : o.dst = some t) (ht : t < N) (k : p.wp t K st H) : o.wp P ca w (Post W0 G0 w0 N K) Q := by
  unfold cPend at hc
  unfold APend.wp at k
  split at k
  rotate_left
  · exact k.elim
  rename_i ob hob
  have fin : ∀ (v : Value) (b : Obj), (execOp ca.eval o).run P w = .ok (.value v) (w.alloc b) → PRel G (w.alloc b) w.heap.size v ob → o.wp P ca w (Post W0 G0 w0 N K) Q := by
    intro v b hr hp
    refine wp_value hr ?_
    rw [hd]
    exact .of (h.pend ht hp) k
  split at hc
  · rename_i ty ho
    simp only [Option.bind_eq_some_iff, Option.map_eq_some_iff] at hc
    obtain ⟨i, hi, z, hz, cs, hcs, rfl⟩ := hc
    obtain ⟨hv, h1⟩ := mapM_cells (G := G) hcs
    cases hob
    refine fin (.pointer (some ⟨w.heap.size, 0, none⟩)) (.cells z.cells ty) (by simp [execOp, ho, Instr.alloc, zeroValue, typeInfo, hi, hz, newVar, newRow]) ⟨rfl, z.cells, ty, heap_push_new, hv, h1⟩
  · rename_i ty x ho
    simp only [Option.map_eq_some_iff] at hc
    obtain ⟨y, hy, rfl⟩ := hc
    simp only [APend.obj, Option.map_eq_some_iff] at hob
    obtain ⟨cs, hcs, rfl⟩ := hob
    have h2 : VRel G (st.ev y) (ca.eval x) := (h.opd hy).rel (fun t off e => by rw [e] at hcs; simp [AV.cells?, AV.one] at hcs)
    obtain ⟨hv, h1⟩ := h2.cells hcs
    exact fin (.pointer (some ⟨w.heap.size, 0, none⟩)) (.cells (ca.eval x).cells ty) (by simp [execOp, ho, Instr.box, newVar, newRow]) ⟨rfl, _, ty, heap_push_new, hv, h1⟩
  · rename_i ho
    cases hc
    cases hob
    exact fin (.map (some w.heap.size)) (.map #[] 0) (by simp [execOp, ho, Instr.makeMap]) ⟨rfl, heap_push_new⟩
  · rename_i ty x y ho
    split at hc
    · rename_i e he
      simp only [Option.bind_eq_some_iff] at hc
      obtain ⟨i, hi, z, hz, zc, hzc, hc⟩ := hc
      split at hc
      · rename_i hzs
        simp only [Option.bind_eq_some_iff, Option.map_eq_some_iff] at hc
        obtain ⟨x', hx, y', hy, rfl⟩ := hc
        have h1 := h.opd hx
        have h2 := h.opd hy
        simp only [APend.obj] at hob
        generalize hvx : ca.eval x = vx at *
        generalize hvy : ca.eval y = vy at *
        split at hob
        · rename_i kl l kc c e1 e2
          rw [e1] at h1
          rw [e2] at h2
          have hvx2 := h1.int
          have hvy2 := h2.int
          subst hvx2
          subst hvy2
          split at hob
          · rename_i hcond
            obtain ⟨k0, k1, k2, k3⟩ := hcond
            cases hob
            have hroomI : (i.bytes : Int) * c ≤ 140737488355328 := by
              unfold roomMax at k2
              have e9 : (i.bytes : Int) * c = ((c.toNat * i.bytes : Nat) : Int) := by rw [Int.natCast_mul, Int.toNat_of_nonneg (by omega), Int.mul_comm]
              rw [e9]; omega
            have run := run_make (P := P) w ty e i z he hi hz kl kc l c k0 k1 (by omega) (by unfold maxLen at k3; omega)
            obtain ⟨hr, h1'⟩ := made_rel (G := G) (n := c.toNat) hzc hzs
            refine fin (.slice (some ⟨w.heap.size, 0, none⟩) l.toNat c.toNat) (.cells (madeCells z.cells (c.toNat * i.size)) e) ?_ ⟨rfl, by omega, k3, _, e, heap_push_new, hr, h1', by simp [madeCells]⟩
            simp only [execOp, ho, hvx, hvy, Sem.run_bind, run, Result.andThen_ok, Sem.run_pure]
          · cases hob
        · cases hob
      · cases hc
    · cases hc
  · cases hc
end
end Go.Qa
