/- The abstract machine, part 1: abstract values, ghosts, how they stand to the model's values and worlds. -/
import Derived.Tactics
import Derived.Orders
import Derived.Below
import Derived.KernelRfl
import Derived.Deep.MidRow
import Derived.WalkKit
set_option linter.all false
namespace Go.Qa
open Go Go.RowKit

/-- An abstract value: a slice bears its contents. -/
inductive AV where
  | any
  | int (k : IntKind) (n : Int)
  | bool (b : Bool)
  | str (s : List UInt8)
  | pl (v : Value)
  | ref (b off : Nat)
  | eref (cells : List AV)
  | lref (t off : Nat)
  | row (own : Option (Nat × Nat)) (full : Bool) (esz : Nat) (es : List AV)
  | arr (b start len esz : Nat)
  | map (m : Nat)
  | itr (m : Nat)
  | fn (f : Fn) (first captured : List AV)
  | iface (t : TypeId) (x : AV)
  | agg (cells : List AV)
  | tup (vs : List AV)
  | yfn (b : Nat)
  deriving Inhabited

/-- It is one cell of memory. -/
def AV.one : AV → Bool
  | .any | .lref .. | .agg _ | .tup _ => false
  | .pl v => v.oneCell'
  | _ => true
/-- Its cells in memory, if they are known. -/
def AV.cells? : AV → Option (List AV)
  | .agg cs => if cs.all AV.one then some cs else none
  | x => if x.one then some [x] else none
def AV.cells (x : AV) : List AV := x.cells?.getD []

structure Ghost where
  bx : Nat → Option Nat
  imm : Nat → Nat → Option Value
  at_ : Nat → Nat → Option (Nat × Nat)
  sz : Nat → Option Nat

structure Ghost.le (G G' : Ghost) : Prop where
  bx : ∀ i B, G.bx i = some B → G'.bx i = some B
  imm : ∀ B o v, G.imm B o = some v → G'.imm B o = some v
  at_ : ∀ t n x, G.at_ t n = some x → G'.at_ t n = some x
  sz : ∀ B n, G.sz B = some n → G'.sz B = some n
  immf : ∀ B o v, G'.imm B o = some v → G.imm B o = some v ∨ G'.sz B ≠ none
theorem Ghost.le.refl (G : Ghost) : G.le G := ⟨fun _ _ h => h, fun _ _ _ h => h, fun _ _ _ h => h, fun _ _ h => h, fun _ _ _ h => .inl h⟩
theorem Ghost.le.trans {A B C : Ghost} (h : A.le B) (k : B.le C) : A.le C :=
  ⟨fun _ _ x => k.bx _ _ (h.bx _ _ x), fun _ _ _ x => k.imm _ _ _ (h.imm _ _ _ x), fun _ _ _ x => k.at_ _ _ _ (h.at_ _ _ _ x), fun _ _ x => k.sz _ _ (h.sz _ _ x), fun X o v q => by
    rcases k.immf X o v q with q | q
    · rcases h.immf X o v q with q | q
      · exact .inl q
      · rcases e : B.sz X with _ | n
        · exact absurd e q
        · exact .inr (by rw [k.sz X n e]; simp)
    · exact .inr q⟩

/-- The abstract value stands for the value. -/
inductive VRel (G : Ghost) : AV → Value → Prop
  | any (v : Value) : VRel G .any v
  | int (k : IntKind) (n : Int) : VRel G (.int k n) (.int k n)
  | bool (b : Bool) : VRel G (.bool b) (.bool b)
  | str (s : List UInt8) (h : s.length ≤ maxLen) : VRel G (.str s) (.string ⟨s.toArray⟩)
  | pl (v : Value) : VRel G (.pl v) v
  | ref (b off B : Nat) (h : G.bx b = some B) : VRel G (.ref b off) (.pointer (some ⟨B, off, none⟩))
  | eref (cells : List AV) (B o : Nat) (cv : Nat → Value)
      (hm : ∀ j, j < cells.length → G.imm B (o + j) = some (cv j))
      (hv : ∀ j, j < cells.length → VRel G (cells.getD j .any) (cv j)) : VRel G (.eref cells) (.pointer (some ⟨B, o, none⟩))
  | row (own : Option (Nat × Nat)) (full : Bool) (esz : Nat) (es : List AV) (a : Addr) (cap : Nat) (cv : Nat → Nat → Value)
      (hs : 0 < es.length → a.spot = none)
      (he : ∀ i, i < es.length → ∃ cs, (es.getD i .any).cells? = some cs ∧ cs.length = esz)
      (hm : ∀ i j, i < es.length → j < esz → G.imm a.block (a.off + (i * esz + j)) = some (cv i j))
      (hv : ∀ i j, i < es.length → j < esz → VRel G ((es.getD i .any).cells.getD j .any) (cv i j))
      (hc : es.length ≤ cap) (hx : cap ≤ maxLen) (hf : full = true → cap = es.length)
      (ho : ∀ t n, own = some (t, n) → a.spot = none ∧ G.at_ t n = some (a.block, a.off + es.length * esz) ∧ ∃ sz, G.sz a.block = some sz ∧ a.off + cap * esz ≤ sz) :
      VRel G (.row own full esz es) (.slice (some a) es.length cap)
  | arr (b start len esz B cap sz : Nat) (h : G.bx b = some B) (hc : len ≤ cap) (hx : cap ≤ maxLen) (hs : G.sz B = some sz) (hz : (start + cap) * esz ≤ sz) :
      VRel G (.arr b start len esz) (.slice (some ⟨B, start * esz, none⟩) len cap)
  | map (m B : Nat) (h : G.bx m = some B) : VRel G (.map m) (.map (some B))
  | yfn (b B : Nat) (h : G.bx b = some B) : VRel G (.yfn b) (.func (.yield B) #[] #[])
  | itr (m B : Nat) (h : G.bx m = some B) : VRel G (.itr m) (.pointer (some ⟨B, 0, none⟩))
  | fn (f : Fn) (first captured : List AV) (vf vc : List Value) (hlf : vf.length = first.length) (hlc : vc.length = captured.length)
      (hf : ∀ j, j < first.length → VRel G (first.getD j .any) (vf.getD j undef))
      (hc : ∀ j, j < captured.length → VRel G (captured.getD j .any) (vc.getD j undef)) : VRel G (.fn f first captured) (.func f vf.toArray vc.toArray)
  | iface (t : TypeId) (x : AV) (v : Value) (h : VRel G x v) : VRel G (.iface t x) (.iface t v)
  | agg (cs : List AV) (vs : List Value) (hl : vs.length = cs.length)
      (h : ∀ j, j < cs.length → VRel G (cs.getD j .any) (vs.getD j undef)) : VRel G (.agg cs) (.agg vs.toArray)
  | tup (cs : List AV) (vs : List Value) (hl : vs.length = cs.length)
      (h : ∀ j, j < cs.length → VRel G (cs.getD j .any) (vs.getD j undef)) : VRel G (.tup cs) (.tuple vs.toArray)

theorem VRel.mono {G G' : Ghost} (hg : G.le G') {x : AV} {v : Value} (h : VRel G x v) : VRel G' x v := by
  induction h with
  | any v => exact .any v
  | int k n => exact .int k n
  | bool b => exact .bool b
  | str s h => exact .str s h
  | pl v => exact .pl v
  | ref b off B h => exact .ref b off B (hg.bx _ _ h)
  | eref cells B o cv hm hv ih => exact .eref cells B o cv (fun j hj => hg.imm _ _ _ (hm j hj)) ih
  | row own full esz es a cap cv hs he hm hv hc hx hf ho ih =>
    exact .row own full esz es a cap cv hs he (fun i j hi hj => hg.imm _ _ _ (hm i j hi hj)) ih hc hx hf
      (fun t n e => let ⟨p, q, sz, r, s⟩ := ho t n e; ⟨p, hg.at_ _ _ _ q, sz, hg.sz _ _ r, s⟩)
  | arr b start len esz B cap sz h hc hx hs hz => exact .arr b start len esz B cap sz (hg.bx _ _ h) hc hx (hg.sz _ _ hs) hz
  | map m B h => exact .map m B (hg.bx _ _ h)
  | yfn b B h => exact .yfn b B (hg.bx _ _ h)
  | itr m B h => exact .itr m B (hg.bx _ _ h)
  | fn f first captured vf vc hlf hlc hf hc ihf ihc => exact .fn f first captured vf vc hlf hlc ihf ihc
  | iface t x v h ih => exact .iface t x v ih
  | agg cs vs hl h ih => exact .agg cs vs hl ih
  | tup cs vs hl h ih => exact .tup cs vs hl ih

/-- Lists of values. -/
def VRels (G : Ghost) (cs : List AV) (vs : List Value) : Prop := vs.length = cs.length ∧ ∀ j, j < cs.length → VRel G (cs.getD j .any) (vs.getD j undef)
theorem VRels.mono {G G' : Ghost} (hg : G.le G') {cs : List AV} {vs : List Value} (h : VRels G cs vs) : VRels G' cs vs := ⟨h.1, fun j hj => (h.2 j hj).mono hg⟩
theorem VRels.nil (G : Ghost) : VRels G [] [] := ⟨rfl, fun j hj => by simp at hj⟩
theorem VRels.cons {G : Ghost} {x : AV} {v : Value} {cs : List AV} {vs : List Value} (h : VRel G x v) (hs : VRels G cs vs) : VRels G (x :: cs) (v :: vs) := by
  refine ⟨by simp [hs.1], fun j hj => ?_⟩
  cases j with
  | zero => simpa using h
  | succ j => simpa using hs.2 j (by simpa using hj)
theorem VRels.head {G : Ghost} {x : AV} {cs : List AV} {vs : List Value} (h : VRels G (x :: cs) vs) : ∃ v vs', vs = v :: vs' ∧ VRel G x v ∧ VRels G cs vs' := by
  cases vs with
  | nil => simp [VRels] at h
  | cons v vs' =>
    refine ⟨v, vs', rfl, by simpa using h.2 0 (by simp), by simpa using h.1, fun j hj => ?_⟩
    simpa using h.2 (j + 1) (by simpa using hj)
theorem VRels.eq_nil {G : Ghost} {vs : List Value} (h : VRels G [] vs) : vs = [] := by simpa using h.1

theorem VRel.one {G : Ghost} {x : AV} {v : Value} (h : VRel G x v) (h1 : x.one = true) : v.oneCell' = true := by
  cases h <;> simp_all [AV.one, Value.oneCell']

theorem VRel.cells {G : Ghost} {x : AV} {v : Value} {cs : List AV} (h : VRel G x v) (hc : x.cells? = some cs) :
    VRels G cs v.cells.toList ∧ (∀ c ∈ cs, c.one = true) := by
  have single : x.one = true → v.oneCell' = true → cs = [x] → VRels G cs v.cells.toList ∧ (∀ c ∈ cs, c.one = true) := by
    intro h1 hv e
    subst e
    have : v.cells = #[v] := by cases v <;> simp_all [Value.cells, Value.oneCell']
    rw [this]
    exact ⟨.cons h (.nil G), by simpa using h1⟩
  have h0 := h
  cases h with
  | agg l vs hl hh =>
    simp only [AV.cells?] at hc
    split at hc
    · rename_i ha
      cases hc
      exact ⟨⟨by simpa [Value.cells] using hl, by simpa [Value.cells] using hh⟩, by simpa using ha⟩
    · cases hc
  | _ =>
    simp only [AV.cells?] at hc
    split at hc
    · rename_i h1
      exact single h1 (VRel.one h0 h1) (Option.some.inj hc).symm
    · cases hc

/-- An object of the abstract heap. -/
inductive AObj where
  | cells (cs : List AV)
  | row (n : Nat)
  | map (es : List (AV × AV × Nat)) (clock : Nat)
  | iter (m : Option Nat) (since : Nat) (seen : List Nat) (stepped : Nat)
  | siter (s : List UInt8) (pos : Nat)
  | loop (busy : Bool) (ss : List AV) (ps : List Nat) (asg body : Code) (pend : Option Code)
  | dead
  deriving Inhabited
abbrev AHeap := List AObj

def ORel (G : Ghost) (w : World) (i : Nat) : AObj → Prop
  | .cells cs => ∃ B vs ty fz, G.bx i = some B ∧ w.heap[B]? = some (.cells vs ty fz) ∧ G.sz B = some vs.size ∧ (∀ o, o < vs.size → ¬ (fz.1 ≤ o ∧ o < fz.2)) ∧ cs.length ≤ vs.size ∧
      (∀ j, j < cs.length → (cs.getD j .any).one = true ∧ VRel G (cs.getD j .any) (vs.toList.getD j undef))
  | .row n => ∃ B E vs ty fz, G.at_ i n = some (B, E) ∧ w.heap[B]? = some (.cells vs ty fz) ∧ G.sz B = some vs.size ∧ E ≤ vs.size ∧
      (∀ o, E ≤ o → G.imm B o = none) ∧ (∀ o, E ≤ o → o < vs.size → ¬ (fz.1 ≤ o ∧ o < fz.2))
  | .map es clock => ∃ B ms, G.bx i = some B ∧ w.heap[B]? = some (.map ms clock) ∧ ms.size = es.length ∧
      ∀ j, j < es.length → ∃ e m, es[j]? = some e ∧ ms[j]? = some m ∧ VRel G e.1 m.key ∧ VRel G e.2.1 m.val ∧ e.2.2 = m.born
  | .iter m since seen stepped => ∃ B, G.bx i = some B ∧ ∃ mB, w.heap[B]? = some (.mapIter mB since seen.toArray stepped) ∧
      (match m with | none => mB = none | some j => ∃ C, G.bx j = some C ∧ mB = some C)
  | .siter s pos => ∃ B, G.bx i = some B ∧ w.heap[B]? = some (.stringIter ⟨s.toArray⟩ pos)
  | .loop busy ss ps asg body pend => ∃ B r, G.bx i = some B ∧ w.heap[B]? = some (.loop r) ∧ r.state = (if busy then .busy else if pend.isNone then .ready else .done) ∧ r.pending = pend ∧ r.params = ps.toArray ∧ r.assign = asg ∧ r.body = body ∧ VRels G ss r.tmps.toList
  | .dead => True

/-- What is dead stays so. -/
theorem live_append {H : AHeap} {l : List AObj} {i : Nat} (hi : i < H.length) : (H ++ l)[i]? ≠ some AObj.dead → H[i]? ≠ some AObj.dead := by
  rw [List.getElem?_append_left hi]; exact id
theorem dead_append {H : AHeap} {l : List AObj} {i : Nat} (h : H[i]? = some AObj.dead) : (H ++ l)[i]? = some AObj.dead := by
  rw [List.getElem?_append_left (List.getElem?_eq_some_iff.1 h).1]; exact h
theorem live_set {H : AHeap} {b i : Nat} {x o : AObj} (hb : H[b]? = some x) (hx : x ≠ AObj.dead) : (H.set b o)[i]? ≠ some AObj.dead → H[i]? ≠ some AObj.dead := by
  intro h
  by_cases e : b = i
  · subst e; rw [hb]; simpa using hx
  · rwa [List.getElem?_set_ne e] at h
theorem dead_set {H : AHeap} {b i : Nat} {x o : AObj} (hb : H[b]? = some x) (hx : x ≠ AObj.dead) (h : H[i]? = some AObj.dead) : (H.set b o)[i]? = some AObj.dead := by
  by_cases e : b = i
  · subst e; rw [hb] at h; exact absurd (Option.some.inj h) hx
  · rwa [List.getElem?_set_ne e]

structure HInv (W0 : World) (H : AHeap) (G : Ghost) (w : World) : Prop where
  base : Below W0.heap.size W0 w
  lt : ∀ B n, G.sz B = some n → W0.heap.size ≤ B ∧ B < w.heap.size
  imm : ∀ B o v, G.imm B o = some v → (G.sz B ≠ none ∨ B < W0.heap.size) ∧ w.cell? ⟨B, o, none⟩ = some v
  bxs : ∀ i B, G.bx i = some B → i < H.length ∧ G.sz B ≠ none ∧ (H[i]? ≠ some AObj.dead → ∀ o, G.imm B o = none)
  inj : ∀ i j B, G.bx i = some B → G.bx j = some B → H[i]? ≠ some AObj.dead → H[j]? ≠ some AObj.dead → i = j
  ats : ∀ t n B E, G.at_ t n = some (B, E) → t < H.length ∧ G.sz B ≠ none ∧ ∀ i, G.bx i = some B → H[i]? = some AObj.dead
  obj : ∀ i o, H[i]? = some o → ORel G w i o
  cur : ∀ t t' n n' B E E', H[t]? = some (.row n) → H[t']? = some (.row n') → G.at_ t n = some (B, E) → G.at_ t' n' = some (B, E') → t = t'

/-- From one world to a later one: what G0 does not own, and was there, is as it was. -/
structure Next (G0 : Ghost) (w0 : World) (G : Ghost) (w : World) : Prop where
  le : G0.le G
  size : w0.heap.size ≤ w.heap.size
  keep : ∀ B, B < w0.heap.size → G0.sz B = none → w.heap[B]? = w0.heap[B]?
  fresh : ∀ B n, G.sz B = some n → G0.sz B = some n ∨ w0.heap.size ≤ B
theorem Next.refl (G : Ghost) (w : World) : Next G w G w := ⟨.refl G, Nat.le_refl _, fun _ _ _ => rfl, fun _ _ h => .inl h⟩
theorem Next.trans {A B C : Ghost} {u v w : World} (h : Next A u B v) (k : Next B v C w) : Next A u C w := {
  le := h.le.trans k.le
  size := Nat.le_trans h.size k.size
  keep X hX hn := by
    have hB : B.sz X = none := by
      rcases e : B.sz X with _ | n
      · rfl
      · exfalso
        rcases h.fresh X n e with q | q
        · rw [q] at hn; cases hn
        · omega
    exact (k.keep X (Nat.lt_of_lt_of_le hX h.size) hB).trans (h.keep X hX hn)
  fresh X n hX := by
    rcases k.fresh X n hX with q | q
    · exact h.fresh X n q
    · exact .inr (Nat.le_trans h.size q) }
end Go.Qa
/- The abstract machine, part 2: how the ghosts go on when memory is made or written. -/
namespace Go.Qa
open Go Go.RowKit
variable {W0 : World} {H : AHeap} {G G' : Ghost} {w w' : World}

theorem HInv.nobx (h : HInv W0 H G w) {i : Nat} (hi : H.length ≤ i) : G.bx i = none := by
  rcases e : G.bx i with _ | B
  · rfl
  · have := (h.bxs i B e).1; omega
theorem HInv.noat (h : HInv W0 H G w) {t : Nat} (hi : H.length ≤ t) (n : Nat) : G.at_ t n = none := by
  rcases e : G.at_ t n with _ | ⟨B, E⟩
  · rfl
  · have := (h.ats t n B E e).1; omega
theorem HInv.nosz (h : HInv W0 H G w) {B : Nat} (hB : w.heap.size ≤ B) : G.sz B = none := by
  rcases e : G.sz B with _ | n
  · rfl
  · have := (h.lt B n e).2; omega
theorem HInv.noimm (h : HInv W0 H G w) {B : Nat} (hB : w.heap.size ≤ B) (o : Nat) : G.imm B o = none := by
  rcases e : G.imm B o with _ | v
  · rfl
  · rcases (h.imm B o v e).1 with q | q
    · exact absurd (h.nosz hB) q
    · have := h.base.size; omega
/-- An immutable cell's block is there; it is owned, or as old as W0. -/
theorem HInv.immLt (h : HInv W0 H G w) {B o : Nat} {v : Value} (e : G.imm B o = some v) : B < w.heap.size := by
  rcases (h.imm B o v e).1 with q | q
  · obtain ⟨n, hn⟩ := Option.ne_none_iff_exists'.1 q
    exact (h.lt B n hn).2
  · have := h.base.size; omega
theorem HInv.nobxB (h : HInv W0 H G w) {B : Nat} (hB : w.heap.size ≤ B) (i : Nat) : G.bx i ≠ some B := fun e => (h.bxs i B e).2.1 (h.nosz hB)
theorem HInv.noatB (h : HInv W0 H G w) {B : Nat} (hB : w.heap.size ≤ B) (t n E : Nat) : G.at_ t n ≠ some (B, E) := fun e => (h.ats t n B E e).2.1 (h.nosz hB)

theorem cell_of_heap {w w' : World} {B : Nat} (h : w'.heap[B]? = w.heap[B]?) (o : Nat) : w'.cell? ⟨B, o, none⟩ = w.cell? ⟨B, o, none⟩ := by
  simp only [World.cell?, h]

/-- An object, as the ghosts grow in other blocks. -/
theorem ORel.ext (hi : HInv W0 H G w) (hle : G.le G') (himm : ∀ B n o, G.sz B = some n → G'.imm B o = G.imm B o)
    (hheap : ∀ B n, G.sz B = some n → w'.heap[B]? = w.heap[B]?) {i : Nat} {o : AObj} (h : ORel G w i o) : ORel G' w' i o := by
  have sz : ∀ j B, G.bx j = some B → w'.heap[B]? = w.heap[B]? := fun j B hb => by
    obtain ⟨n, hn⟩ := Option.ne_none_iff_exists'.1 (hi.bxs j B hb).2.1
    exact hheap B n hn
  cases o with
  | cells cs =>
    obtain ⟨B, vs, ty, fz, hb, hh, hs, hf, hl, hv⟩ := h
    exact ⟨B, vs, ty, fz, hle.bx _ _ hb, (sz i B hb).trans hh, hle.sz _ _ hs, hf, hl, fun j hj => ⟨(hv j hj).1, (hv j hj).2.mono hle⟩⟩
  | row n =>
    obtain ⟨B, E, vs, ty, fz, ha, hh, hs, hE, hn, hf⟩ := h
    exact ⟨B, E, vs, ty, fz, hle.at_ _ _ _ ha, (hheap B _ hs).trans hh, hle.sz _ _ hs, hE, fun o ho => (himm B _ o hs).trans (hn o ho), hf⟩
  | map es clock =>
    obtain ⟨B, ms, hb, hh, hl, hv⟩ := h
    refine ⟨B, ms, hle.bx _ _ hb, (sz i B hb).trans hh, hl, fun j hj => ?_⟩
    obtain ⟨e, m, h1, h2, h3, h4, h5⟩ := hv j hj
    exact ⟨e, m, h1, h2, h3.mono hle, h4.mono hle, h5⟩
  | iter m since seen stepped =>
    obtain ⟨B, hb, mB, hh, hm⟩ := h
    refine ⟨B, hle.bx _ _ hb, mB, (sz i B hb).trans hh, ?_⟩
    cases m with
    | none => exact hm
    | some j =>
      obtain ⟨C, hC, e⟩ := hm
      exact ⟨C, hle.bx _ _ hC, e⟩
  | siter s pos =>
    obtain ⟨B, hb, hh⟩ := h
    exact ⟨B, hle.bx _ _ hb, (sz i B hb).trans hh⟩
  | loop busy ss ps asg body pend =>
    obtain ⟨B, r, hb, hh, h1, h2, h3, h4, h5, h6⟩ := h
    exact ⟨B, r, hle.bx _ _ hb, (sz i B hb).trans hh, h1, h2, h3, h4, h5, h6.mono hle⟩
  | dead => exact trivial

/-- Blocks that the ghosts don't own may turn. -/
theorem HInv.frame (h : HInv W0 H G w) (hb : Below W0.heap.size W0 w') (hs : w.heap.size ≤ w'.heap.size)
    (hh : ∀ B n, G.sz B = some n → w'.heap[B]? = w.heap[B]?) : HInv W0 H G w' := {
  base := hb
  lt B n e := ⟨(h.lt B n e).1, Nat.lt_of_lt_of_le (h.lt B n e).2 hs⟩
  imm B o v e := by
    obtain ⟨h1, h2⟩ := h.imm B o v e
    refine ⟨h1, (cell_of_heap ?_ o).trans h2⟩
    rcases h1 with h1 | h1
    · obtain ⟨n, hn⟩ := Option.ne_none_iff_exists'.1 h1
      exact hh B n hn
    · exact (hb.block B h1).trans (h.base.block B h1).symm
  bxs := h.bxs
  inj := h.inj
  ats := h.ats
  obj i o e := ORel.ext h (.refl G) (fun _ _ _ _ => rfl) hh (h.obj i o e)
  cur := h.cur }

theorem HInv.drew (h : HInv W0 H G w) : HInv W0 H G w.drew := h.frame h.base.drew (Nat.le_refl _) fun _ _ _ => rfl
theorem Next.drew (G : Ghost) (w : World) : Next G w G w.drew := ⟨.refl G, Nat.le_refl _, fun _ _ _ => rfl, fun _ _ h => .inl h⟩

/-- A block of a box: a new one. -/
def Ghost.addB (G : Ghost) (i B n : Nat) : Ghost :=
  { G with bx := fun j => if j = i then some B else G.bx j, sz := fun C => if C = B then some n else G.sz C }
/-- A block of a row: some of its cells stay as they are. -/
def Ghost.addR (G : Ghost) (B n : Nat) (c : Nat → Option Value) (t m : Nat) (E : Option Nat) : Ghost :=
  { G with imm := fun C o => if C = B then c o else G.imm C o, sz := fun C => if C = B then some n else G.sz C,
           at_ := fun t' n' => if t' = t ∧ n' = m ∧ E.isSome then E.map fun e => (B, e) else G.at_ t' n' }

theorem HInv.addB_le (h : HInv W0 H G w) (n : Nat) : G.le (G.addB H.length w.heap.size n) := {
  bx i B e := by
    have := (h.bxs i B e).1
    simp only [Ghost.addB]; rw [if_neg (by omega)]; exact e
  imm _ _ _ e := e
  at_ _ _ _ e := e
  sz B m e := by
    have := (h.lt B m e).2
    simp only [Ghost.addB]; rw [if_neg (by omega)]; exact e
  immf _ _ _ e := .inl e }

theorem heap_push_lt {w : World} {o : Obj} {B : Nat} (h : B < w.heap.size) : (w.alloc o).heap[B]? = w.heap[B]? := Below.heap_alloc w o B h
theorem heap_push_new {w : World} {o : Obj} : (w.alloc o).heap[w.heap.size]? = some o := by
  show (w.heap.push o)[w.heap.size]? = _
  simp
theorem alloc_size (w : World) (o : Obj) : (w.alloc o).heap.size = w.heap.size + 1 := by
  show (w.heap.push o).size = _
  simp

/-- A new box, map or iterator. -/
theorem HInv.addB (h : HInv W0 H G w) (o : AObj) (ob : Obj) (n : Nat) (hrow : ∀ k, o ≠ .row k)
    (ho : ORel (G.addB H.length w.heap.size n) (w.alloc ob) H.length o) : HInv W0 (H ++ [o]) (G.addB H.length w.heap.size n) (w.alloc ob) := {
  base := h.base.alloc h.base.size ob
  lt B m e := by
    rw [alloc_size]
    simp only [Ghost.addB] at e
    split at e
    · have := h.base.size; subst B; omega
    · have := h.lt B m e; omega
  imm B o v e := by
    obtain ⟨h1, h2⟩ := h.imm B o v e
    have := h.immLt e
    refine ⟨?_, (cell_of_heap (heap_push_lt this) o).trans h2⟩
    simp only [Ghost.addB]; rw [if_neg (by omega)]; exact h1
  bxs i B e := by
    simp only [Ghost.addB] at e ⊢
    rw [List.length_append, List.length_singleton]
    split at e
    · cases e
      exact ⟨by omega, by simp, fun _ o => h.noimm (Nat.le_refl _) o⟩
    · obtain ⟨h1, h2, h3⟩ := h.bxs i B e
      refine ⟨by omega, ?_, fun q => h3 (live_append h1 q)⟩
      split
      · simp
      · exact h2
  inj i j B hi hj li lj := by
    simp only [Ghost.addB] at hi hj
    split at hi <;> split at hj
    · omega
    · cases hi; exact absurd hj (h.nobxB (Nat.le_refl _) j)
    · cases hj; exact absurd hi (h.nobxB (Nat.le_refl _) i)
    · exact h.inj i j B hi hj (live_append (h.bxs i B hi).1 li) (live_append (h.bxs j B hj).1 lj)
  ats t k B E e := by
    obtain ⟨h1, h2, h3⟩ := h.ats t k B E e
    rw [List.length_append, List.length_singleton]
    refine ⟨by omega, ?_, fun i => ?_⟩
    · simp only [Ghost.addB]
      split
      · simp
      · exact h2
    · simp only [Ghost.addB]
      split
      · intro q; cases q; exact absurd (h.nosz (Nat.le_refl _)) h2
      · exact fun q => dead_append (h3 i q)
  obj i x e := by
    rcases Nat.lt_or_ge i H.length with hlt | hge
    · rw [List.getElem?_append_left hlt] at e
      exact ORel.ext h (h.addB_le n) (fun _ _ _ _ => rfl) (fun B m hB => heap_push_lt (h.lt B m hB).2) (h.obj i x e)
    · rw [List.getElem?_append_right hge] at e
      have : i = H.length := by
        have := (List.getElem?_eq_some_iff.1 e).1
        simp at this; omega
      subst this
      simp at e
      subst e
      exact ho
  cur t t' k k' B E E' e e' a a' := by
    have key : ∀ (t k : Nat), (H ++ [o])[t]? = some (AObj.row k) → H[t]? = some (AObj.row k) := by
      intro t k e
      rcases Nat.lt_or_ge t H.length with hlt | hge
      · rwa [List.getElem?_append_left hlt] at e
      · rw [List.getElem?_append_right hge] at e
        have : t - H.length = 0 := by
          have := (List.getElem?_eq_some_iff.1 e).1
          simp at this; omega
        simp [this] at e
        exact absurd e (hrow k)
    exact h.cur t t' k k' B E E' (key t k e) (key t' k' e') a a' }

theorem HInv.addB_next (h : HInv W0 H G w) (ob : Obj) (n : Nat) : Next G w (G.addB H.length w.heap.size n) (w.alloc ob) := {
  le := h.addB_le n
  size := by rw [alloc_size]; omega
  keep B hB _ := heap_push_lt hB
  fresh B m e := by
    simp only [Ghost.addB] at e
    split at e
    · exact .inr (by omega)
    · exact .inl e }

/-- A block that nobody owned is taken as a new object. -/
theorem HInv.adopt_le (h : HInv W0 H G w) {B : Nat} (hs : G.sz B = none) (n : Nat) : G.le (G.addB H.length B n) := {
  bx i C e := by
    have := (h.bxs i C e).1
    simp only [Ghost.addB]; rw [if_neg (by omega)]; exact e
  imm _ _ _ e := e
  at_ _ _ _ e := e
  sz C m e := by
    simp only [Ghost.addB]; rw [if_neg (fun q => by rw [q, hs] at e; cases e)]; exact e
  immf _ _ _ e := .inl e }
theorem HInv.adopt (h : HInv W0 H G w) {B : Nat} (hs : G.sz B = none) (hW : W0.heap.size ≤ B) (hw : B < w.heap.size) (o : AObj) (n : Nat) (hrow : ∀ k, o ≠ .row k)
    (ho : ORel (G.addB H.length B n) w H.length o) : HInv W0 (H ++ [o]) (G.addB H.length B n) w := {
  base := h.base
  lt C m e := by
    simp only [Ghost.addB] at e
    split at e
    · subst C; exact ⟨hW, hw⟩
    · exact h.lt C m e
  imm C o v e := by
    obtain ⟨h1, h2⟩ := h.imm C o v e
    refine ⟨h1.imp (fun h1 => ?_) id, h2⟩
    simp only [Ghost.addB]; rw [if_neg (fun q : C = B => h1 (by rw [q]; exact hs))]; exact h1
  bxs i C e := by
    simp only [Ghost.addB] at e ⊢
    rw [List.length_append, List.length_singleton]
    split at e
    · cases e
      refine ⟨by omega, by simp, fun _ o => ?_⟩
      rcases q : G.imm B o with _ | v
      · rfl
      · rcases (h.imm B o v q).1 with z | z
        · exact absurd hs z
        · omega
    · obtain ⟨h1, h2, h3⟩ := h.bxs i C e
      refine ⟨by omega, ?_, fun q => h3 (live_append h1 q)⟩
      split
      · simp
      · exact h2
  inj i j C hi hj li lj := by
    simp only [Ghost.addB] at hi hj
    split at hi <;> split at hj
    · omega
    · cases hi; exact absurd hs (h.bxs j B hj).2.1
    · cases hj; exact absurd hs (h.bxs i B hi).2.1
    · exact h.inj i j C hi hj (live_append (h.bxs i C hi).1 li) (live_append (h.bxs j C hj).1 lj)
  ats t k C E e := by
    obtain ⟨h1, h2, h3⟩ := h.ats t k C E e
    rw [List.length_append, List.length_singleton]
    refine ⟨by omega, ?_, fun i => ?_⟩
    · simp only [Ghost.addB]
      split
      · simp
      · exact h2
    · simp only [Ghost.addB]
      split
      · intro q; cases q; exact absurd hs h2
      · exact fun q => dead_append (h3 i q)
  obj i x e := by
    rcases Nat.lt_or_ge i H.length with hlt | hge
    · rw [List.getElem?_append_left hlt] at e
      exact ORel.ext h (h.adopt_le hs n) (fun _ _ _ _ => rfl) (fun _ _ _ => rfl) (h.obj i x e)
    · rw [List.getElem?_append_right hge] at e
      have : i = H.length := by
        have := (List.getElem?_eq_some_iff.1 e).1
        simp at this; omega
      subst this
      simp at e
      subst e
      exact ho
  cur t t' k k' C E E' e e' a a' := by
    have key : ∀ (t k : Nat), (H ++ [o])[t]? = some (AObj.row k) → H[t]? = some (AObj.row k) := by
      intro t k e
      rcases Nat.lt_or_ge t H.length with hlt | hge
      · rwa [List.getElem?_append_left hlt] at e
      · rw [List.getElem?_append_right hge] at e
        have : t - H.length = 0 := by
          have := (List.getElem?_eq_some_iff.1 e).1
          simp at this; omega
        simp [this] at e
        exact absurd e (hrow k)
    exact h.cur t t' k k' C E E' (key t k e) (key t' k' e') a a' }

/-- A new box of cells. -/
theorem HInv.newBox (h : HInv W0 H G w) (cs : List AV) (vs : List Value) (ty : TypeId) (hv : VRels G cs vs) (h1 : ∀ c ∈ cs, c.one = true) :
    ∃ G', Next G w G' (w.alloc (.cells vs.toArray ty)) ∧ HInv W0 (H ++ [.cells cs]) G' (w.alloc (.cells vs.toArray ty)) ∧ G'.bx H.length = some w.heap.size ∧ G'.sz w.heap.size = some vs.length := by
  refine ⟨G.addB H.length w.heap.size vs.length, h.addB_next _ _, h.addB (.cells cs) _ _ (by simp) ?_, by simp [Ghost.addB], by simp [Ghost.addB]⟩
  refine ⟨w.heap.size, vs.toArray, ty, (0, 0), by simp [Ghost.addB], heap_push_new, by simp [Ghost.addB], by simp, by simp [hv.1], fun j hj => ⟨?_, ?_⟩⟩
  · rw [List.getD_eq_getElem?_getD, List.getElem?_eq_getElem hj]
    exact h1 _ (List.getElem_mem hj)
  · simpa using (hv.2 j hj).mono (h.addB_le _)

/-- A new box with room behind its cells. -/
theorem HInv.newBoxRoom (h : HInv W0 H G w) (cs : List AV) (vs : Array Value) (ty : TypeId) (fz : Nat × Nat) (hf : ∀ o, o < vs.size → ¬ (fz.1 ≤ o ∧ o < fz.2)) (hl : cs.length ≤ vs.size) (hv : ∀ j, j < cs.length → VRel G (cs.getD j .any) (vs.toList.getD j undef)) (h1 : ∀ c ∈ cs, c.one = true) :
    ∃ G', Next G w G' (w.alloc (.cells vs ty fz)) ∧ HInv W0 (H ++ [.cells cs]) G' (w.alloc (.cells vs ty fz)) ∧ G'.bx H.length = some w.heap.size ∧ G'.sz w.heap.size = some vs.size := by
  refine ⟨G.addB H.length w.heap.size vs.size, h.addB_next _ _, h.addB (.cells cs) _ _ (by simp) ?_, by simp [Ghost.addB], by simp [Ghost.addB]⟩
  refine ⟨w.heap.size, vs, ty, fz, by simp [Ghost.addB], heap_push_new, by simp [Ghost.addB], hf, hl, fun j hj => ⟨?_, (hv j hj).mono (h.addB_le _)⟩⟩
  rw [List.getD_eq_getElem?_getD, List.getElem?_eq_getElem hj]
  exact h1 _ (List.getElem_mem hj)

/-! ### Rows -/
theorem HInv.addR_le (h : HInv W0 H G w) (n : Nat) (c : Nat → Option Value) (m : Nat) (E : Option Nat) : G.le (G.addR w.heap.size n c H.length m E) := {
  bx _ _ e := e
  imm B o v e := by
    have := h.immLt e
    simp only [Ghost.addR]; rw [if_neg (by omega)]; exact e
  at_ t k x e := by
    have : t < H.length := (h.ats t k x.1 x.2 e).1
    simp only [Ghost.addR]; rw [if_neg (by omega)]; exact e
  sz B k e := by
    have := (h.lt B k e).2
    simp only [Ghost.addR]; rw [if_neg (by omega)]; exact e
  immf B o v e := by
    simp only [Ghost.addR] at e ⊢
    split at e
    · exact .inr (by simp [*])
    · exact .inl e }

theorem HInv.addR_next (h : HInv W0 H G w) (ob : Obj) (n : Nat) (c : Nat → Option Value) (m : Nat) (E : Option Nat) : Next G w (G.addR w.heap.size n c H.length m E) (w.alloc ob) := {
  le := h.addR_le n c m E
  size := by rw [alloc_size]; omega
  keep B hB _ := heap_push_lt hB
  fresh B k e := by
    simp only [Ghost.addR] at e
    split at e
    · exact .inr (by omega)
    · exact .inl e }

/-- The parts that a new row's block and its token share. -/
theorem HInv.addR (h : HInv W0 H G w) (vs : Array Value) (ty : TypeId) (fz : Nat × Nat) (K m : Nat) (hK : K ≤ vs.size) (tok : Bool) (hf : tok = true → ∀ o, K ≤ o → o < vs.size → ¬ (fz.1 ≤ o ∧ o < fz.2)) :
    HInv W0 (if tok then H ++ [.row m] else H) (G.addR w.heap.size vs.size (fun o => if o < K then vs[o]? else none) H.length m (if tok then some K else none)) (w.alloc (.cells vs ty fz)) := by
  have hlen : H.length ≤ (if tok then H ++ [AObj.row m] else H).length := by split <;> simp
  have hlv : ∀ i, i < H.length → (if tok then H ++ [AObj.row m] else H)[i]? ≠ some AObj.dead → H[i]? ≠ some AObj.dead := fun i hi => by
    cases tok
    · exact id
    · exact live_append hi
  have hdd : ∀ i, H[i]? = some AObj.dead → (if tok then H ++ [AObj.row m] else H)[i]? = some AObj.dead := fun i => by
    cases tok
    · exact id
    · exact dead_append
  refine { base := h.base.alloc h.base.size _, lt := ?_, imm := ?_, bxs := ?_, inj := fun i j B hi hj li lj => h.inj i j B hi hj (hlv i (h.bxs i B hi).1 li) (hlv j (h.bxs j B hj).1 lj), ats := ?_, obj := ?_, cur := ?_ }
  · intro B k e
    rw [alloc_size]
    simp only [Ghost.addR] at e
    split at e
    · have := h.base.size; subst B; omega
    · have := h.lt B k e; omega
  · intro B o v e
    simp only [Ghost.addR] at e ⊢
    by_cases hB : B = w.heap.size
    · rw [if_pos hB] at e
      subst hB
      refine ⟨by simp, ?_⟩
      split at e
      · simp only [World.cell?, heap_push_new]; simpa using e
      · cases e
    · rw [if_neg hB] at e
      obtain ⟨h1, h2⟩ := h.imm B o v e
      rw [if_neg hB]
      exact ⟨h1, (cell_of_heap (heap_push_lt (h.immLt e)) o).trans h2⟩
  · intro i B e
    obtain ⟨h1, h2, h3⟩ := h.bxs i B e
    have hB : B ≠ w.heap.size := fun q => h2 (q ▸ h.nosz (Nat.le_refl _))
    simp only [Ghost.addR]
    rw [if_neg hB]
    refine ⟨by omega, h2, fun q o => ?_⟩
    rw [if_neg hB]; exact h3 (hlv i h1 q) o
  · intro t k B E e
    simp only [Ghost.addR] at e ⊢
    by_cases hc : t = H.length ∧ k = m ∧ (if tok = true then some K else none).isSome = true
    · rw [if_pos hc] at e
      obtain ⟨rfl, rfl, ht⟩ := hc
      cases tok
      · simp at ht
      · simp at e
        obtain ⟨rfl, rfl⟩ := e
        exact ⟨by simp, by simp, fun i q => absurd q (h.nobxB (Nat.le_refl _) i)⟩
    · rw [if_neg hc] at e
      obtain ⟨h1, h2, h3⟩ := h.ats t k B E e
      have hB : B ≠ w.heap.size := fun q => h2 (q ▸ h.nosz (Nat.le_refl _))
      rw [if_neg hB]
      exact ⟨by omega, h2, fun i q => hdd i (h3 i q)⟩
  · intro i x e
    have old : H[i]? = some x → ORel (G.addR w.heap.size vs.size (fun o => if o < K then vs[o]? else none) H.length m (if tok then some K else none)) (w.alloc (.cells vs ty fz)) i x := fun e =>
      ORel.ext h (h.addR_le _ _ _ _) (fun B k o hB => by
        have := (h.lt B k hB).2
        simp only [Ghost.addR]; rw [if_neg (by omega)]) (fun B m hB => heap_push_lt (h.lt B m hB).2) (h.obj i x e)
    cases tok with
    | false => exact old e
    | true =>
      simp only [if_true] at e
      rcases Nat.lt_or_ge i H.length with hlt | hge
      · rw [List.getElem?_append_left hlt] at e
        exact old e
      · rw [List.getElem?_append_right hge] at e
        have : i = H.length := by
          have := (List.getElem?_eq_some_iff.1 e).1
          simp at this; omega
        subst this
        simp at e
        subst e
        refine ⟨w.heap.size, K, vs, ty, fz, by simp [Ghost.addR], heap_push_new, by simp [Ghost.addR], hK, fun o ho => ?_, hf rfl⟩
        simp only [Ghost.addR, if_true]; rw [if_neg (by omega)]
  · intro t t' k k' B E E' e e' a a'
    have key : ∀ t k B E, (if tok then H ++ [AObj.row m] else H)[t]? = some (.row k) → (G.addR w.heap.size vs.size (fun o => if o < K then vs[o]? else none) H.length m (if tok then some K else none)).at_ t k = some (B, E) →
        (t = H.length ∧ B = w.heap.size) ∨ (t < H.length ∧ H[t]? = some (.row k) ∧ G.at_ t k = some (B, E) ∧ B ≠ w.heap.size) := by
      intro t k B E e a
      rcases Nat.lt_or_ge t H.length with hlt | hge
      · right
        have e2 : H[t]? = some (.row k) := by
          cases tok
          · exact e
          · simpa [List.getElem?_append_left hlt] using e
        simp only [Ghost.addR] at a
        rw [if_neg (by omega)] at a
        exact ⟨hlt, e2, a, fun q => h.noatB (Nat.le_refl _) t k E (q ▸ a)⟩
      · left
        cases tok
        · simp at e
          have := (List.getElem?_eq_some_iff.1 e).1
          omega
        · simp only [if_true] at e
          rw [List.getElem?_append_right hge] at e
          have ht : t = H.length := by
            have := (List.getElem?_eq_some_iff.1 e).1
            simp at this; omega
          subst ht
          simp at e
          subst e
          simp [Ghost.addR] at a
          exact ⟨rfl, a.1.symm⟩
    rcases key t k B E e a with ⟨p, q⟩ | ⟨p, q, r, s⟩ <;> rcases key t' k' B E' e' a' with ⟨p', q'⟩ | ⟨p', q', r', s'⟩
    · omega
    · exact absurd q s'
    · exact absurd q' s
    · exact h.cur t t' k k' B E E' q q' r r'
end Go.Qa
/- The abstract machine, part 3: stores into boxes, and rows that grow in place. -/
namespace Go.Qa
open Go Go.RowKit
variable {W0 : World} {H : AHeap} {G G' : Ghost} {w w' : World}

/-- Some of a list written over. -/
def over {α : Type} (cs : List α) (o : Nat) (ns : List α) : List α := cs.take o ++ ns ++ cs.drop (o + ns.length)
theorem over_length {α : Type} {cs : List α} {o : Nat} {ns : List α} (h : o + ns.length ≤ cs.length) : (over cs o ns).length = cs.length := by
  simp [over]; omega
theorem over_get {α : Type} {cs : List α} {o : Nat} {ns : List α} (h : o + ns.length ≤ cs.length) (j : Nat) :
    (over cs o ns)[j]? = if o ≤ j ∧ j < o + ns.length then ns[j - o]? else cs[j]? := by
  unfold over
  rw [List.getElem?_append, List.getElem?_append]
  simp only [List.length_append, List.length_take]
  by_cases h1 : j < o
  · rw [if_pos (by omega), if_pos (by omega), if_neg (by omega), List.getElem?_take_of_lt h1]
  · by_cases h2 : j < o + ns.length
    · rw [if_pos (by omega), if_neg (by omega), if_pos (by omega), show min o cs.length = o by omega]
    · rw [if_neg (by omega), if_neg (by omega), List.getElem?_drop]
      congr 1; omega
theorem over_getD {α : Type} {cs : List α} {o : Nat} {ns : List α} (h : o + ns.length ≤ cs.length) (j : Nat) (d : α) :
    (over cs o ns).getD j d = if o ≤ j ∧ j < o + ns.length then ns.getD (j - o) d else cs.getD j d := by
  simp only [List.getD_eq_getElem?_getD, over_get h]
  split <;> rfl
theorem over_nil {α : Type} (cs : List α) (o : Nat) : over cs o [] = cs := by simp [over]
theorem over_cons {α : Type} {cs : List α} {o : Nat} {n : α} {ns : List α} (h : o + (ns.length + 1) ≤ cs.length) : over cs o (n :: ns) = over (cs.set o n) (o + 1) ns := by
  apply List.ext_getElem?
  intro j
  rw [over_get (by simpa using h), over_get (by simp; omega), List.getElem?_set]
  simp only [List.length_cons]
  by_cases h1 : j = o
  · subst h1
    rw [if_pos (by omega), if_neg (by omega), if_pos rfl, if_pos (by omega)]; simp
  · by_cases h2 : o + 1 ≤ j ∧ j < o + 1 + ns.length
    · rw [if_pos (by omega), if_pos h2, show j - o = (j - (o + 1)) + 1 by omega, List.getElem?_cons_succ]
    · rw [if_neg (by omega), if_neg h2, if_neg (by omega)]

theorem heap_setCells_ne (b : Nat) : ∀ (vs : List Value) (o : Nat) (w : World) (k : Nat), k ≠ b → (w.setCells b o vs).heap[k]? = w.heap[k]?
  | [], _, _, _, _ => rfl
  | v :: r, o, w, k, h => by
    rw [World.setCells, heap_setCells_ne b r (o + 1) _ k h]
    exact Below.heap_setCell w _ v k h
theorem size_setCells (b : Nat) : ∀ (vs : List Value) (o : Nat) (w : World), (w.setCells b o vs).heap.size = w.heap.size
  | [], _, _ => rfl
  | _ :: r, o, _ => by rw [World.setCells, size_setCells b r]; simp [World.setCell]
theorem heap_setCells_at (b : Nat) (ty : TypeId) (fz : Nat × Nat) : ∀ (vs : List Value) (o : Nat) (w : World) (c : List Value), w.heap[b]? = some (.cells c.toArray ty fz) → o + vs.length ≤ c.length →
    (w.setCells b o vs).heap[b]? = some (.cells (over c o vs).toArray ty fz)
  | [], o, w, c, h, _ => by rw [World.setCells, over_nil]; exact h
  | v :: r, o, w, c, h, hl => by
    have hlt : b < w.heap.size := (Array.getElem?_eq_some_iff.1 h).1
    have h1 : (w.setCell ⟨b, o, none⟩ v).heap[b]? = some (.cells (c.set o v).toArray ty fz) := by
      simp only [World.setCell, Array.getElem?_modify, if_true, h, Option.map_some]
      simp
    rw [World.setCells, heap_setCells_at b ty fz r (o + 1) _ _ h1 (by simp at hl ⊢; omega), over_cons (by simpa [Nat.add_comm] using hl)]
theorem Below.setCells {B : Nat} {a : World} (b : Nat) (hb : B ≤ b) : ∀ (vs : List Value) (o : Nat) (w : World), Below B a w → Below B a (w.setCells b o vs)
  | [], _, _, h => h
  | v :: r, o, w, h => Below.setCells b hb r (o + 1) _ (h.setCell hb v)

theorem Next.setCells {G0 : Ghost} {w0 : World} (h : Next G0 w0 G w) (b n o : Nat) (vs : List Value) (hb : G.sz b = some n) : Next G0 w0 G (w.setCells b o vs) := {
  le := h.le
  size := by rw [size_setCells]; exact h.size
  keep B hB hn := by
    have : B ≠ b := by
      rintro rfl
      rcases h.fresh B n hb with q | q
      · rw [q] at hn; cases hn
      · omega
    exact (heap_setCells_ne b vs o w B this).trans (h.keep B hB hn)
  fresh := h.fresh }

/-- A store into a box. -/
theorem HInv.store (h : HInv W0 H G w) (b B o : Nat) (cs ns : List AV) (nvs : List Value) (hb : H[b]? = some (.cells cs)) (hB : G.bx b = some B)
    (hl : o + ns.length ≤ cs.length) (hv : VRels G ns nvs) (h1 : ∀ c ∈ ns, c.one = true) :
    HInv W0 (H.set b (.cells (over cs o ns))) G (w.setCells B o nvs) := by
  obtain ⟨B', vs, ty, fz, hB', hh, hs, hfz, hle, hcv⟩ := h.obj b _ hb
  rw [hB] at hB'
  cases hB'
  have hlen : nvs.length = ns.length := hv.1
  have hh' : (w.setCells B o nvs).heap[B]? = some (.cells (over vs.toList o nvs).toArray ty fz) :=
    heap_setCells_at B ty fz nvs o w vs.toList (by simpa using hh) (by simp; omega)
  have hblen : b < H.length := (List.getElem?_eq_some_iff.1 hb).1
  have hlb : H[b]? ≠ some AObj.dead := by rw [hb]; simp
  have hlv : ∀ i, (H.set b (.cells (over cs o ns)))[i]? ≠ some AObj.dead → H[i]? ≠ some AObj.dead := fun i => live_set hb (by simp)
  refine { base := ?_, lt := ?_, imm := ?_, bxs := ?_, inj := fun i j C hi hj li lj => h.inj i j C hi hj (hlv i li) (hlv j lj), ats := ?_, obj := ?_, cur := ?_ }
  · exact Below.setCells B (h.lt B _ hs).1 nvs o w h.base
  · intro C n e; rw [size_setCells]; exact h.lt C n e
  · intro C p v e
    obtain ⟨q, r⟩ := h.imm C p v e
    refine ⟨q, ?_⟩
    have : C ≠ B := by rintro rfl; rw [(h.bxs b _ hB).2.2 hlb p] at e; cases e
    exact (cell_of_heap (heap_setCells_ne B nvs o w C this) p).trans r
  · intro i C e
    obtain ⟨q1, q2, q3⟩ := h.bxs i C e
    rw [List.length_set]; exact ⟨q1, q2, fun z => q3 (hlv i z)⟩
  · intro t n C E e
    obtain ⟨q1, q2, q3⟩ := h.ats t n C E e
    rw [List.length_set]; exact ⟨q1, q2, fun i z => dead_set hb (by simp) (q3 i z)⟩
  · intro i x e
    by_cases hi : b = i
    · subst hi
      rw [List.getElem?_set_self hblen] at e
      cases e
      refine ⟨B, (over vs.toList o nvs).toArray, ty, fz, hB, hh', ?_, fun p hp => hfz p (by simp at hp; rw [over_length (by simp; omega)] at hp; simpa using hp), ?_, fun j hj => ?_⟩
      · rw [hs]; simp; rw [over_length (by simp; omega)]; simp
      · rw [over_length hl]; simp; rw [over_length (by simp; omega)]; simpa using hle
      · rw [over_length hl] at hj
        rw [over_getD hl, over_getD (by simp; omega), hlen]
        split
        · rename_i hr
          refine ⟨?_, hv.2 _ (by omega)⟩
          rw [List.getD_eq_getElem?_getD, List.getElem?_eq_getElem (by omega)]
          exact h1 _ (List.getElem_mem _)
        · exact hcv j hj
    · rw [List.getElem?_set_ne hi] at e
      have ho := h.obj i x e
      have hne : x ≠ AObj.dead → ∀ C, G.bx i = some C → C ≠ B := fun hx C hC q => hi (h.inj b i B hB (q ▸ hC) hlb (by rw [e]; simpa using hx))
      cases x with
      | cells cs' =>
        obtain ⟨C, vs', ty', fz', p1, p2, p3, p4, p5⟩ := ho
        exact ⟨C, vs', ty', fz', p1, (heap_setCells_ne B nvs o w C (hne (by simp) C p1)).trans p2, p3, p4, p5⟩
      | row n =>
        obtain ⟨C, E, vs', ty', fz, p1, p2, p3⟩ := ho
        have : C ≠ B := fun q => hlb ((h.ats i n C E p1).2.2 b (q ▸ hB))
        exact ⟨C, E, vs', ty', fz, p1, (heap_setCells_ne B nvs o w C this).trans p2, p3⟩
      | map es clock =>
        obtain ⟨C, ms, p1, p2, p3⟩ := ho
        exact ⟨C, ms, p1, (heap_setCells_ne B nvs o w C (hne (by simp) C p1)).trans p2, p3⟩
      | iter m since seen stepped =>
        obtain ⟨C, p1, mB, p2, p3⟩ := ho
        exact ⟨C, p1, mB, (heap_setCells_ne B nvs o w C (hne (by simp) C p1)).trans p2, p3⟩
      | siter s pos =>
        obtain ⟨C, p1, p2⟩ := ho
        exact ⟨C, p1, (heap_setCells_ne B nvs o w C (hne (by simp) C p1)).trans p2⟩
      | loop busy ss ps asg body pend =>
        obtain ⟨C, r, p1, p2, p3⟩ := ho
        exact ⟨C, r, p1, (heap_setCells_ne B nvs o w C (hne (by simp) C p1)).trans p2, p3⟩
      | dead => exact trivial
  · have key : ∀ (t k : Nat), (H.set b (AObj.cells (over cs o ns)))[t]? = some (AObj.row k) → H[t]? = some (AObj.row k) := by
      intro t k e
      by_cases hi : b = t
      · subst hi; rw [List.getElem?_set_self hblen] at e; cases e
      · rwa [List.getElem?_set_ne hi] at e
    intro t t' n n' C E E' e e' a a'
    exact h.cur t t' n n' C E E' (key t n e) (key t' n' e') a a'

/-- A row that grows in its own block; its old token is dead. -/
def Ghost.grow (G : Ghost) (B E : Nat) (ns : List Value) (t m : Nat) : Ghost :=
  { G with imm := fun C o => if C = B ∧ E ≤ o ∧ o < E + ns.length then ns[o - E]? else G.imm C o,
           at_ := fun t' n' => if t' = t ∧ n' = m then some (B, E + ns.length) else G.at_ t' n' }

theorem HInv.grow (h : HInv W0 H G w) (t n B E m : Nat) (vs : List Value) (ty : TypeId) (fz : Nat × Nat) (ns : List Value) (ht : H[t]? = some (.row n)) (ha : G.at_ t n = some (B, E))
    (hh : w.heap[B]? = some (.cells vs.toArray ty fz)) (hl : E + ns.length ≤ vs.length) :
    HInv W0 (H.set t AObj.dead ++ [.row m]) (G.grow B E ns H.length m) (w.setCells B E ns) ∧ G.le (G.grow B E ns H.length m) ∧ G.sz B = some vs.length := by
  obtain ⟨B', E', vs', ty', fz', ha', hh2, hs, hE, hn, hf⟩ := h.obj t _ ht
  rw [ha] at ha'
  cases ha'
  rw [hh] at hh2
  cases hh2
  have hs' : G.sz B = some vs.length := by simpa using hs
  have htlen : t < H.length := (List.getElem?_eq_some_iff.1 ht).1
  have hlen : (H.set t AObj.dead ++ [AObj.row m]).length = H.length + 1 := by simp
  have hle : G.le (G.grow B E ns H.length m) := by
    refine ⟨fun _ _ e => e, fun C o v e => ?_, fun t' k x e => ?_, fun _ _ e => e, fun C o v e => ?_⟩
    rotate_left 2
    · simp only [Ghost.grow] at e
      split at e
      · rename_i q; rw [q.1]; exact .inr (by simp [Ghost.grow, hs'])
      · exact .inl e
    · simp only [Ghost.grow]
      rw [if_neg]; · exact e
      rintro ⟨rfl, q, _⟩
      rw [hn o q] at e; cases e
    · have : t' < H.length := (h.ats t' k x.1 x.2 e).1
      simp only [Ghost.grow]; rw [if_neg (by omega)]; exact e
  have hh' : (w.setCells B E ns).heap[B]? = some (.cells (over vs E ns).toArray ty fz) := heap_setCells_at B ty fz ns E w vs hh hl
  refine ⟨?_, hle, hs'⟩
  have hlv : ∀ i, i < H.length → (H.set t AObj.dead ++ [AObj.row m])[i]? ≠ some AObj.dead → H[i]? ≠ some AObj.dead := fun i hi z => by
    have z2 := live_append (l := [AObj.row m]) (H := H.set t AObj.dead) (i := i) (by simpa using hi) z
    by_cases e : t = i
    · subst e; rw [ht]; simp
    · rwa [List.getElem?_set_ne e] at z2
  have hdd : ∀ i, H[i]? = some AObj.dead → (H.set t AObj.dead ++ [AObj.row m])[i]? = some AObj.dead := fun i z => dead_append (dead_set ht (by simp) z)
  refine { base := ?_, lt := ?_, imm := ?_, bxs := ?_, inj := fun i j C hi hj li lj => h.inj i j C hi hj (hlv i (h.bxs i C hi).1 li) (hlv j (h.bxs j C hj).1 lj), ats := ?_, obj := ?_, cur := ?_ }
  · exact Below.setCells B (h.lt B _ hs').1 ns E w h.base
  · intro C k e; rw [size_setCells]; exact h.lt C k e
  · intro C o v e
    have at' : ∀ o, (w.setCells B E ns).cell? ⟨B, o, none⟩ = (over vs E ns)[o]? := fun o => by
      simp only [World.cell?, hh']; simp
    have at0 : ∀ o, w.cell? ⟨B, o, none⟩ = vs[o]? := fun o => by
      simp only [World.cell?, hh]; simp
    simp only [Ghost.grow] at e
    by_cases hc : C = B ∧ E ≤ o ∧ o < E + ns.length
    · rw [if_pos hc] at e
      obtain ⟨rfl, q1, q2⟩ := hc
      refine ⟨by simp [Ghost.grow, hs'], ?_⟩
      rw [at', over_get hl, if_pos ⟨q1, q2⟩]
      exact e
    · rw [if_neg hc] at e
      obtain ⟨q, r⟩ := h.imm C o v e
      refine ⟨q, ?_⟩
      by_cases hC : C = B
      · subst hC
        have : o < E := by
          rcases Nat.lt_or_ge o E with z | z
          · exact z
          · rw [hn o z] at e; cases e
        rw [at0] at r
        rw [at', over_get hl, if_neg (by omega)]
        exact r
      · exact (cell_of_heap (heap_setCells_ne B ns E w C hC) o).trans r
  · intro i C e
    rw [hlen]
    obtain ⟨p, q, r⟩ := h.bxs i C e
    refine ⟨by omega, q, fun z o => ?_⟩
    have z := hlv i p z
    simp only [Ghost.grow]
    rw [if_neg]; · exact r z o
    rintro ⟨rfl, _⟩
    exact z ((h.ats t n C E ha).2.2 i e)
  · intro t' k C E' e
    rw [hlen]
    simp only [Ghost.grow] at e
    split at e
    · rename_i hc
      cases e
      exact ⟨by omega, by simp [Ghost.grow, hs'], fun i z => hdd i ((h.ats t n B E ha).2.2 i z)⟩
    · obtain ⟨p, q, r⟩ := h.ats t' k C E' e
      exact ⟨by omega, q, fun i z => hdd i (r i z)⟩
  · intro i x e
    rcases Nat.lt_or_ge i H.length with hlt | hge
    · rw [List.getElem?_append_left (by simpa using hlt)] at e
      by_cases hi : t = i
      · subst hi
        rw [List.getElem?_set_self htlen] at e
        cases e
        exact trivial
      · rw [List.getElem?_set_ne hi] at e
        have ho := h.obj i x e
        have hne : x ≠ AObj.dead → ∀ C, G.bx i = some C → C ≠ B := fun hx C hC q => by
          have := (h.ats t n B E ha).2.2 i (q ▸ hC)
          rw [e] at this
          exact hx (Option.some.inj this)
        cases x with
        | cells cs' =>
          obtain ⟨C, vs', ty', fz', p1, p2, p3, p3', p4, p5⟩ := ho
          exact ⟨C, vs', ty', fz', p1, (heap_setCells_ne B ns E w C (hne (by simp) C p1)).trans p2, p3, p3', p4, fun j hj => ⟨(p5 j hj).1, (p5 j hj).2.mono hle⟩⟩
        | row k =>
          obtain ⟨C, E', vs', ty', fz, p1, p2, p3, p4, p5, p6⟩ := ho
          have hC : C ≠ B := by rintro rfl; exact hi (h.cur t i n k C E E' ht e ha p1)
          refine ⟨C, E', vs', ty', fz, hle.at_ _ _ _ p1, (heap_setCells_ne B ns E w C hC).trans p2, p3, p4, fun o ho => ?_, p6⟩
          simp only [Ghost.grow]
          rw [if_neg (by rintro ⟨q, _⟩; exact hC q)]
          exact p5 o ho
        | map es clock =>
          obtain ⟨C, ms, p1, p2, p3, p4⟩ := ho
          refine ⟨C, ms, p1, (heap_setCells_ne B ns E w C (hne (by simp) C p1)).trans p2, p3, fun j hj => ?_⟩
          obtain ⟨a, b, c, d, f, g, i⟩ := p4 j hj
          exact ⟨a, b, c, d, f.mono hle, g.mono hle, i⟩
        | iter mm since seen stepped =>
          obtain ⟨C, p1, mB, p2, p3⟩ := ho
          exact ⟨C, p1, mB, (heap_setCells_ne B ns E w C (hne (by simp) C p1)).trans p2, p3⟩
        | siter s pos =>
          obtain ⟨C, p1, p2⟩ := ho
          exact ⟨C, p1, (heap_setCells_ne B ns E w C (hne (by simp) C p1)).trans p2⟩
        | loop busy ss ps asg body pend =>
          obtain ⟨C, r, p1, p2, p3, p4, p5, p6, p7, p8⟩ := ho
          exact ⟨C, r, p1, (heap_setCells_ne B ns E w C (hne (by simp) C p1)).trans p2, p3, p4, p5, p6, p7, p8.mono hle⟩
        | dead => exact trivial
    · rw [List.getElem?_append_right (by simpa using hge)] at e
      have : i = H.length := by
        have := (List.getElem?_eq_some_iff.1 e).1
        simp at this; omega
      subst this
      simp at e
      subst e
      refine ⟨B, E + ns.length, (over vs E ns).toArray, ty, fz, by simp [Ghost.grow], hh', by simp [Ghost.grow, hs', over_length hl], by simp [over_length hl]; omega, fun o ho => ?_, fun o ho ho2 => ?_⟩
      · simp only [Ghost.grow]
        rw [if_neg (by omega)]
        exact hn o (by omega)
      · exact hf o (by omega) (by simpa [over_length hl] using ho2)
  · have key : ∀ (t' k C E' : Nat), (H.set t AObj.dead ++ [AObj.row m])[t']? = some (AObj.row k) → (G.grow B E ns H.length m).at_ t' k = some (C, E') →
        (t' = H.length ∧ C = B) ∨ (t' ≠ t ∧ t' < H.length ∧ H[t']? = some (AObj.row k) ∧ G.at_ t' k = some (C, E')) := by
      intro t' k C E' e a
      rcases Nat.lt_or_ge t' H.length with hlt | hge
      · right
        rw [List.getElem?_append_left (by simpa using hlt)] at e
        simp only [Ghost.grow] at a
        rw [if_neg (by omega)] at a
        by_cases hi : t = t'
        · subst hi
          rw [List.getElem?_set_self htlen] at e; cases e
        · rw [List.getElem?_set_ne hi] at e
          exact ⟨fun q => hi q.symm, hlt, e, a⟩
      · left
        rw [List.getElem?_append_right (by simpa using hge)] at e
        have ht' : t' = H.length := by
          have := (List.getElem?_eq_some_iff.1 e).1
          simp at this; omega
        subst ht'
        simp at e
        subst e
        simp [Ghost.grow] at a
        exact ⟨rfl, a.1.symm⟩
    intro t1 t2 k k' C E1 E2 e e' a a'
    rcases key t1 k C E1 e a with ⟨p, q⟩ | ⟨p, q, r, s⟩ <;> rcases key t2 k' C E2 e' a' with ⟨p', q'⟩ | ⟨p', q', r', s'⟩
    · omega
    · subst q; exact absurd (h.cur t t2 n k' C E E2 ht r' ha s') (Ne.symm p')
    · subst q'; exact absurd (h.cur t t1 n k C E E1 ht r ha s) (Ne.symm p)
    · exact h.cur t1 t2 k k' C E1 E2 r r' s s'
end Go.Qa
/- The abstract machine, part 4: the state of a function's body, and the operations that only compute. -/
namespace Go.Qa
open Go Go.RowKit

/-! ### Bytes -/
def bs (l : List UInt8) : ByteArray := ⟨l.toArray⟩
theorem bs_size (l : List UInt8) : (bs l).size = l.length := by simp [bs, ByteArray.size]
theorem bs_data (l : List UInt8) : (bs l).data.toList = l := by simp [bs]
theorem bs_of (s : ByteArray) : bs s.data.toList = s := by cases s; simp [bs]
theorem bs_get (l : List UInt8) (i : Nat) : (bs l)[i]? = l[i]? := by
  by_cases h : i < l.length
  · rw [List.getElem?_eq_getElem h]
    have : i < (bs l).size := by rw [bs_size]; exact h
    rw [getElem?_pos (bs l) i this]
    rfl
  · rw [List.getElem?_eq_none (by omega), getElem?_neg]
    rw [bs_size]; exact h
theorem bs_extract (l : List UInt8) (a b : Nat) : (bs l).extract a b = bs ((l.take b).drop a) := by
  apply ByteArray.ext
  apply Array.ext'
  simp [bs, ByteArray.data_extract, List.drop_take]
theorem bs_append (l m : List UInt8) : bs l ++ bs m = bs (l ++ m) := by
  apply ByteArray.ext
  simp [bs]
theorem bs_toList (l : List UInt8) : (bs l).toList = l := by
  have key : ∀ (s : ByteArray), s.toList = s.data.toList := by
    intro s
    have h : ∀ (n i : Nat) (acc : List UInt8), s.size - i = n → ByteArray.toList.loop s i acc = acc.reverse ++ s.data.toList.drop i := by
      intro n
      induction n with
      | zero =>
        intro i acc hn
        rw [ByteArray.toList.loop.eq_1, if_neg (by omega), List.drop_eq_nil_of_le]
        · simp
        · rw [Array.length_toList]; show s.size ≤ i; omega
      | succ n ih =>
        intro i acc hn
        have hlt : i < s.size := by omega
        rw [ByteArray.toList.loop.eq_1, if_pos hlt, ih _ _ (by omega)]
        have hl : i < s.data.toList.length := by rw [Array.length_toList]; exact hlt
        rw [List.drop_eq_getElem_cons hl]
        simp [ByteArray.get!, hlt]
        try (rw [getElem!_pos]; exact hlt)
    have := h s.size 0 [] rfl
    simpa [ByteArray.toList] using this
  rw [key, bs_data]

/-! ### The state -/
/-- What a slot's new block holds, while nobody has it yet. -/
inductive PObj where
  | cells (cs : List AV)
  | map
  | arr (n cap esz : Nat) (cs : List AV)
  deriving Inhabited
structure AS where
  s : Nat → AV
  loc : Nat → Option (List AV)
  pnd : Nat → Option PObj := fun _ => none
def AS.set (st : AS) (d : Option Nat) (x : AV) : AS :=
  match d with
  | some t => { st with s := fun i => if i = t then x else st.s i, pnd := fun i => if i = t then none else st.pnd i }
  | none => st

inductive Opd where
  | t (i : Nat)
  | c (x : AV)
  deriving Inhabited
def AS.ev (st : AS) : Opd → AV
  | .t i => st.s i
  | .c x => x

def SRel (G : Ghost) (L : Nat → Option Nat) (x : AV) (v : Value) : Prop :=
  (∃ t off B, x = .lref t off ∧ L t = some B ∧ v = .pointer (some ⟨B, off, none⟩)) ∨ VRel G x v

/-- The marks that loops over functions have left among the deferred calls. -/
def Marks (w0 : World) (G : Ghost) (ds : List Deferred) (w : World) : Prop :=
  ∃ Ds : List Nat, ds = Ds.map (fun D => ({ target := .collected D, args := #[] } : Deferred)) ∧ Ds.Nodup ∧ ∀ D ∈ Ds, w0.heap.size ≤ D ∧ G.sz D = none ∧ w.heap[D]? = some (.deferred (some []))
theorem Marks.nil (w0 : World) (G : Ghost) (w : World) : Marks w0 G [] w := ⟨[], rfl, List.nodup_nil, by simp⟩
theorem Marks.go {w0 w w' : World} {G G' : Ghost} {ds : List Deferred} (h : Marks w0 G ds w) (hs : ∀ D, D < w.heap.size → G.sz D = none → G'.sz D = none)
    (hh : ∀ D, G.sz D = none → w.heap[D]? = some (.deferred (some [])) → w'.heap[D]? = w.heap[D]?) : Marks w0 G' ds w' := by
  obtain ⟨Ds, h1, h2, h3⟩ := h
  refine ⟨Ds, h1, h2, fun D hD => ?_⟩
  obtain ⟨a, b, c⟩ := h3 D hD
  exact ⟨a, hs D (Array.getElem?_eq_some_iff.1 c).1 b, (hh D b c).trans c⟩
theorem Marks.next {w0 w w' : World} {G G' : Ghost} {ds : List Deferred} (h : Marks w0 G ds w) (hn : Next G w G' w') : Marks w0 G' ds w' := by
  refine h.go (fun D hD hz => ?_) (fun D hz hd => hn.keep D (Array.getElem?_eq_some_iff.1 hd).1 hz)
  rcases e : G'.sz D with _ | n
  · rfl
  · rcases hn.fresh D n e with q | q
    · rw [q] at hz; cases hz
    · omega

/-- A new block of no ghost, and the value that leads to it. -/
def PRel (G : Ghost) (w : World) (B : Nat) (v : Value) : PObj → Prop
  | .cells cs => v = .pointer (some ⟨B, 0, none⟩) ∧ ∃ vs ty, w.heap[B]? = some (.cells vs ty (0, 0)) ∧ VRels G cs vs.toList ∧ ∀ c ∈ cs, c.one = true
  | .map => v = .map (some B) ∧ w.heap[B]? = some (.map #[] 0)
  | .arr n cap esz cs => v = .slice (some ⟨B, 0, none⟩) n cap ∧ n ≤ cap ∧ cap ≤ maxLen ∧ ∃ vs ty, w.heap[B]? = some (.cells vs ty (0, 0)) ∧ VRels G cs vs.toList ∧ (∀ c ∈ cs, c.one = true) ∧ cap * esz ≤ vs.size
theorem PRel.go {G G' : Ghost} {w w' : World} {B : Nat} {v : Value} {o : PObj} (h : PRel G w B v o) (hg : G.le G') (hw : w'.heap[B]? = w.heap[B]?) : PRel G' w' B v o := by
  cases o with
  | cells cs => obtain ⟨h1, vs, ty, h2, h3, h4⟩ := h; exact ⟨h1, vs, ty, hw.trans h2, h3.mono hg, h4⟩
  | map => exact ⟨h.1, hw.trans h.2⟩
  | arr n cap esz cs => obtain ⟨h1, ha, hb, vs, ty, h2, h3, h4⟩ := h; exact ⟨h1, ha, hb, vs, ty, hw.trans h2, h3.mono hg, h4⟩
theorem PRel.lt {G : Ghost} {w : World} {B : Nat} {v : Value} {o : PObj} (h : PRel G w B v o) : B < w.heap.size := by
  cases o with
  | cells cs => obtain ⟨h1, vs, ty, h2, _⟩ := h; exact (Array.getElem?_eq_some_iff.1 h2).1
  | map => exact (Array.getElem?_eq_some_iff.1 h.2).1
  | arr n cap esz cs => obtain ⟨h1, _, _, vs, ty, h2, _⟩ := h; exact (Array.getElem?_eq_some_iff.1 h2).1
/-- The slots whose blocks nobody has yet. -/
def Pnds (w0 : World) (N : Nat) (G : Ghost) (L : Nat → Option Nat) (st : AS) (tmps : Array Value) (w : World) : Prop :=
  ∃ M : Nat → Option Nat, (∀ t o, st.pnd t = some o → t < N ∧ st.s t = .any ∧ ∃ B, M t = some B ∧ w0.heap.size ≤ B ∧ G.sz B = none ∧ PRel G w B (tmps.getD t undef) o) ∧
    (∀ t t', st.pnd t ≠ none → st.pnd t' ≠ none → M t = M t' → t = t') ∧ ∀ t l, st.pnd t ≠ none → st.loc l ≠ none → M t ≠ L l
theorem Pnds.nil {w0 : World} {N : Nat} {G : Ghost} {L : Nat → Option Nat} {st : AS} {tmps : Array Value} {w : World} (h : ∀ t, st.pnd t = none) : Pnds w0 N G L st tmps w := by
  refine ⟨fun _ => none, ?_, ?_, ?_⟩
  · intro t o e; rw [h] at e; cases e
  · intro t _ e; exact absurd (h t) e
  · intro t _ e; exact absurd (h t) e
/-- They stay, where their blocks stay. -/
theorem Pnds.go {w0 : World} {N : Nat} {G G' : Ghost} {L : Nat → Option Nat} {st : AS} {tmps : Array Value} {w w' : World} (h : Pnds w0 N G L st tmps w) (hg : G.le G')
    (hb : ∀ B, w0.heap.size ≤ B → B < w.heap.size → G.sz B = none → (∃ t o, st.pnd t = some o ∧ PRel G w B (tmps.getD t undef) o) → G'.sz B = none ∧ w'.heap[B]? = w.heap[B]?) : Pnds w0 N G' L st tmps w' := by
  obtain ⟨M, h1, h2, h3⟩ := h
  refine ⟨M, fun t o e => ?_, h2, h3⟩
  obtain ⟨a, b, B, c, d, f, g⟩ := h1 t o e
  obtain ⟨p, q⟩ := hb B d g.lt f ⟨t, o, e, g⟩
  exact ⟨a, b, B, c, d, p, g.go hg q⟩

structure Rel (W0 : World) (G0 : Ghost) (w0 : World) (N : Nat) (G : Ghost) (L : Nat → Option Nat) (st : AS) (H : AHeap) (ca : Act) (w : World) : Prop where
  bw : W0.heap.size ≤ w0.heap.size
  next : Next G0 w0 G w
  inv : HInv W0 H G w
  defers : Marks w0 G ca.defers w
  size : ca.tmps.size = N
  slots : ∀ t, t < N → SRel G L (st.s t) (ca.tmps.getD t undef)
  locs : ∀ t cs, st.loc t = some cs → ∃ B vs ty, L t = some B ∧ w0.heap.size ≤ B ∧ G.sz B = none ∧ w.heap[B]? = some (.cells vs.toArray ty (0, 0)) ∧ VRels G cs vs ∧ ∀ c ∈ cs, c.one = true
  linj : ∀ t t' B, st.loc t ≠ none → st.loc t' ≠ none → L t = some B → L t' = some B → t = t'
  lrefs : ∀ t i off, t < N → st.s t = .lref i off → st.loc i ≠ none
  pnds : Pnds w0 N G L st ca.tmps w

def Reach (W0 : World) (G0 : Ghost) (w0 : World) (N : Nat) (st : AS) (H : AHeap) (ca : Act) (w : World) : Prop := ∃ G L, Rel W0 G0 w0 N G L st H ca w

section
variable {W0 : World} {G0 : Ghost} {w0 : World} {N : Nat} {G : Ghost} {L : Nat → Option Nat} {st : AS} {H : AHeap} {ca : Act} {w : World} {P : Program}

theorem SRel.of {x : AV} {v : Value} (h : VRel G x v) : SRel G L x v := .inr h
theorem SRel.int {k : IntKind} {n : Int} {v : Value} (h : SRel G L (.int k n) v) : v = .int k n := by
  rcases h with ⟨_, _, _, e, _⟩ | h
  · cases e
  · cases h; rfl
theorem SRel.bool {b : Bool} {v : Value} (h : SRel G L (.bool b) v) : v = .bool b := by
  rcases h with ⟨_, _, _, e, _⟩ | h
  · cases e
  · cases h; rfl
theorem SRel.str {s : List UInt8} {v : Value} (h : SRel G L (.str s) v) : v = .string (bs s) ∧ s.length ≤ maxLen := by
  rcases h with ⟨_, _, _, e, _⟩ | h
  · cases e
  · cases h with | str _ hl => exact ⟨rfl, hl⟩
theorem SRel.pl {u v : Value} (h : SRel G L (.pl u) v) : v = u := by
  rcases h with ⟨_, _, _, e, _⟩ | h
  · cases e
  · cases h; rfl
theorem SRel.rel {x : AV} {v : Value} (h : SRel G L x v) (hx : ∀ t off, x ≠ .lref t off) : VRel G x v := by
  rcases h with ⟨t, off, _, e, _⟩ | h
  · exact absurd e (hx t off)
  · exact h

/-- The operands. -/
def AV.ofCell : Value → Option AV
  | .int k n => some (.int k n)
  | .bool b => some (.bool b)
  | .string s => if s.size ≤ maxLen then some (.str s.data.toList) else none
  | .agg _ | .tuple _ => none
  | v => some (.pl v)
def AV.ofConst : Value → Option AV
  | .agg cs => (cs.toList.mapM AV.ofCell).map .agg
  | v => AV.ofCell v
theorem AV.ofCell_rel {v : Value} {x : AV} (h : AV.ofCell v = some x) : VRel G x v ∧ x.one = true ∧ v.oneCell' = true := by
  unfold AV.ofCell at h
  split at h
  · cases h; exact ⟨.int _ _, rfl, rfl⟩
  · cases h; exact ⟨.bool _, rfl, rfl⟩
  · rename_i s
    split at h
    · rename_i hs
      cases h
      refine ⟨?_, rfl, rfl⟩
      have := VRel.str (G := G) s.data.toList (by rw [Array.length_toList]; exact hs)
      have e : (⟨s.data.toList.toArray⟩ : ByteArray) = s := by cases s; simp
      rwa [e] at this
    · cases h
  · cases h
  · cases h
  · rename_i h1 h2 h3 h4 h5
    cases h
    have : v.oneCell' = true := by cases v <;> simp_all [Value.oneCell']
    exact ⟨.pl _, this, this⟩
theorem mapM_cells {vs : List Value} : ∀ {cs : List AV}, vs.mapM AV.ofCell = some cs → VRels G cs vs ∧ ∀ c ∈ cs, c.one = true := by
  induction vs with
  | nil => intro cs h; simp at h; subst h; exact ⟨.nil G, by simp⟩
  | cons v vs ih =>
    intro cs h
    simp only [List.mapM_cons, Option.bind_eq_bind, Option.bind_eq_some_iff, Option.pure_def, Option.some.injEq] at h
    obtain ⟨x, hx, ys, hy, rfl⟩ := h
    obtain ⟨p, q, _⟩ := AV.ofCell_rel (G := G) hx
    obtain ⟨r, s⟩ := ih hy
    exact ⟨.cons p r, by simp; exact ⟨q, s⟩⟩
theorem AV.ofConst_rel {v : Value} {x : AV} (h : AV.ofConst v = some x) : VRel G x v := by
  unfold AV.ofConst at h
  split at h
  · rename_i cs
    simp only [Option.map_eq_some_iff] at h
    obtain ⟨l, hl, rfl⟩ := h
    have := (mapM_cells (G := G) hl).1
    have e := VRel.agg (G := G) l cs.toList this.1 this.2
    simpa using e
  · exact (AV.ofCell_rel h).1
def cOpd (N : Nat) : Operand → Option Opd
  | .tmp t => if t < N then some (.t t) else none
  | .const v => (AV.ofConst v).map .c
  | .func f => some (.c (.fn (.func f) [] []))
  | .global _ => none
theorem Rel.opd (h : Rel W0 G0 w0 N G L st H ca w) {x : Operand} {y : Opd} (hx : cOpd N x = some y) : SRel G L (st.ev y) (ca.eval x) := by
  cases x with
  | tmp t =>
    simp only [cOpd] at hx
    split at hx
    · cases hx; exact h.slots t (by assumption)
    · cases hx
  | const v =>
    simp only [cOpd, Option.map_eq_some_iff] at hx
    obtain ⟨a, ha, rfl⟩ := hx
    exact .of (AV.ofConst_rel ha)
  | func f =>
    simp only [cOpd] at hx
    cases hx
    exact .of (.fn _ [] [] [] [] rfl rfl (fun j hj => by simp at hj) (fun j hj => by simp at hj))
  | global g => simp [cOpd] at hx

/-- A slot is written. -/
theorem Rel.set (h : Rel W0 G0 w0 N G L st H ca w) (d : Option Nat) {x : AV} {v : Value} (hx : SRel G L x v) (hl : ∀ i off, x = .lref i off → st.loc i ≠ none) :
    Rel W0 G0 w0 N G L (st.set d x) H (ca.put d v) w := by
  cases d with
  | none => exact h
  | some d =>
    refine { bw := h.bw, next := h.next, inv := h.inv, defers := h.defers, size := by simp [Act.put, h.size], slots := fun t ht => ?_, locs := h.locs, linj := h.linj, lrefs := fun t i off ht e => ?_, pnds := ?_ }
    · simp only [AS.set, Act.put]
      by_cases e : t = d
      · subst e
        rw [if_pos rfl]
        have : (ca.tmps.setIfInBounds t v).getD t undef = v := by
          rw [Array.getD_eq_getD_getElem?, Array.getElem?_setIfInBounds_self, if_pos (by rw [h.size]; exact ht)]; rfl
        rw [this]; exact hx
      · rw [if_neg e]
        have : (ca.tmps.setIfInBounds d v).getD t undef = ca.tmps.getD t undef := by
          rw [Array.getD_eq_getD_getElem?, Array.getElem?_setIfInBounds_ne (fun q => e q.symm), Array.getD_eq_getD_getElem?]
        rw [this]; exact h.slots t ht
    · simp only [AS.set] at e ⊢
      by_cases q : t = d
      · rw [if_pos q] at e; exact hl i off e
      · rw [if_neg q] at e; exact h.lrefs t i off ht e
    · obtain ⟨M, h1, h2, h3⟩ := h.pnds
      have key : ∀ t o, (st.set (some d) x).pnd t = some o → t ≠ d ∧ st.pnd t = some o := fun t o e => by
        simp only [AS.set] at e
        split at e
        · cases e
        · exact ⟨by assumption, e⟩
      have key2 : ∀ t, (st.set (some d) x).pnd t ≠ none → st.pnd t ≠ none := fun t e => by
        obtain ⟨o, ho⟩ := Option.ne_none_iff_exists'.1 e
        rw [(key t o ho).2]; simp
      refine ⟨M, fun t o e => ?_, fun t t' a b => h2 t t' (key2 t a) (key2 t' b), fun t l a b => h3 t l (key2 t a) b⟩
      obtain ⟨q, e⟩ := key t o e
      obtain ⟨a, b, B, c, d', f, g⟩ := h1 t o e
      refine ⟨a, by simp only [AS.set]; rw [if_neg q]; exact b, B, c, d', f, ?_⟩
      have : (ca.tmps.setIfInBounds d v).getD t undef = ca.tmps.getD t undef := by
        rw [Array.getD_eq_getD_getElem?, Array.getElem?_setIfInBounds_ne (fun q' => q q'.symm), Array.getD_eq_getD_getElem?]
      simp only [Act.put, this]
      exact g

/-- What an operand refers to in the function's own blocks is there. -/
theorem Rel.opd_loc (h : Rel W0 G0 w0 N G L st H ca w) {x : Operand} {y : Opd} (hx : cOpd N x = some y) {i off : Nat} (e : st.ev y = .lref i off) : st.loc i ≠ none := by
  cases x with
  | tmp t =>
    simp only [cOpd] at hx
    split at hx
    · cases hx; exact h.lrefs t i off (by assumption) e
    · cases hx
  | const v =>
    simp only [cOpd, Option.map_eq_some_iff] at hx
    obtain ⟨a, ha, rfl⟩ := hx
    simp only [AS.ev] at e
    subst e
    exact absurd (AV.ofConst_rel (G := G) ha) (by intro q; cases q)
  | func f => simp only [cOpd] at hx; cases hx; simp [AS.ev] at e
  | global g => simp [cOpd] at hx
end
end Go.Qa
/- The abstract machine, part 5: the operations that only compute: what they give. -/
namespace Go.Qa
open Go Go.RowKit

/-- The kinds of comparison. -/
inductive SK where
  | i | b | s
  deriving Inhabited
inductive EK where
  | bool | ptr | sl | mp | fn | ifc
  | st (ks : List SK)
  deriving Inhabited
inductive PExp where
  | mov (x : Opd)
  | pick (c a b : Opd)
  | load (n : Option Nat) (x : Opd)
  | nilck (x : Opd)
  | bin (op : BinOp) (x y : Opd)
  | un (op : UnOp) (x : Opd)
  | i2i (k : IntKind) (x : Opd)
  | off (o : Nat) (x : Opd)
  | iaddr (esz : Nat) (x i : Opd)
  | idxS (x i : Opd)
  | slS (x : Opd) (lo hi : Option Opd)
  | slR (esz : Nat) (x : Opd) (lo hi mx : Option Opd)
  | extr (x : Opd) (i : Nat)
  | lenS (x : Opd)
  | lenR (x : Opd)
  | mkfn (f : Fn) (first captured : List Opd)
  | build (zero : List AV) (parts : List (Nat × Nat × Opd))
  deriving Inhabited

def AV.glob : AV → Bool
  | .lref .. => false
  | _ => true
def AV.asI : AV → Option Int
  | .int _ n => some n
  | _ => none
def AS.cellsAt (st : AS) (H : AHeap) : AV → Option (List AV)
  | .ref b off => match H[b]? with
    | some (.cells cs) => some (cs.drop off)
    | _ => none
  | .lref t off => (st.loc t).map (·.drop off)
  | .eref cs => some cs
  | _ => none
def intBin (op : BinOp) (k : IntKind) (a b : Int) : Option AV :=
  match op with
  | .add => some (.int k (k.wrap (a + b)))
  | .sub => some (.int k (k.wrap (a - b)))
  | .mul => some (.int k (k.wrap (a * b)))
  | .quo => if b = 0 then none else some (.int k (k.wrap (a.tdiv b)))
  | .rem => if b = 0 then none else some (.int k (a.tmod b))
  | .and => some (.int k (k.wrap (BitVec.ofInt k.bits a &&& BitVec.ofInt k.bits b).toNat))
  | .or => some (.int k (k.wrap (BitVec.ofInt k.bits a ||| BitVec.ofInt k.bits b).toNat))
  | .xor => some (.int k (k.wrap (BitVec.ofInt k.bits a ^^^ BitVec.ofInt k.bits b).toNat))
  | .eql => some (.bool (a == b))
  | .neq => some (.bool (a != b))
  | .lss => some (.bool (decide (a < b)))
  | .leq => some (.bool (decide (a ≤ b)))
  | .gtr => some (.bool (decide (b < a)))
  | .geq => some (.bool (decide (b ≤ a)))
  | _ => none
def strBin (op : BinOp) (a b : List UInt8) : Option AV :=
  match op with
  | .add => if a.length + b.length ≤ maxLen then some (.str (a ++ b)) else none
  | .eql => some (.bool (a == b))
  | .neq => some (.bool (!(a == b)))
  | .lss => some (.bool (Op.bytesLess a b))
  | .leq => some (.bool (Op.bytesLess a b || a == b))
  | .gtr => some (.bool (!(Op.bytesLess a b || a == b)))
  | .geq => some (.bool (!Op.bytesLess a b))
  | _ => none
def binAV (op : BinOp) (x y : AV) : Option AV :=
  match x, y with
  | .int k a, .int k' b =>
    match op with
    | .shl => if b < 0 then none else some (.int k (k.wrap (a * 2 ^ min b.toNat k.bits)))
    | .shr => if b < 0 then none else some (.int k (a.fdiv (2 ^ min b.toNat k.bits)))
    | _ => if k = k' then intBin op k a b else none
  | .str a, .str b => strBin op a b
  | _, _ => none
def unAV (op : UnOp) (x : AV) : Option AV :=
  match op, x with
  | .neg, .int k n => some (.int k (k.wrap (0 - n)))
  | .not, .bool b => some (.bool !b)
  | _, _ => none
def nilckAV (x : AV) : Option AV :=
  match x with
  | .ref .. | .lref .. | .eref _ | .fn (.func _) _ _ | .iface .. => some x
  | _ => none
def offAV (o : Nat) (x : AV) : Option AV :=
  match x with
  | .ref b i => some (.ref b (i + o))
  | .lref t i => some (.lref t (i + o))
  | .eref cs => if o ≤ cs.length then some (.eref (cs.drop o)) else none
  | _ => none
def iaddrAV (esz : Nat) (x : AV) (i : Int) : Option AV :=
  match x with
  | .row _ _ sz es => if sz = esz ∧ 0 ≤ i ∧ i < es.length then some (.eref (es.getD i.toNat .any).cells) else none
  | .arr b start len sz => if sz = esz ∧ 0 ≤ i ∧ i < len then some (.ref b ((start + i.toNat) * esz)) else none
  | _ => none
/-- A bound of a slice expression. -/
def AS.bd (st : AS) : Option Opd → Nat → Option Int
  | none, d => some d
  | some x, _ => (st.ev x).asI
def slRAV (esz : Nat) (x : AV) (lo : Int) (hi : Option Int) (mx : Option Int) : Option AV :=
  match x with
  | .row own full sz es =>
    let h := hi.getD es.length
    if sz = esz ∧ 0 ≤ lo ∧ lo ≤ h ∧ h ≤ es.length ∧ (∀ m, mx = some m → m = h) then
      some (.row (if h = es.length ∧ lo < h ∧ mx = none then own else none) (mx.isSome || (full && h == es.length)) esz ((es.take h.toNat).drop lo.toNat)) else none
  | .arr b start len sz =>
    let h := hi.getD len
    if sz = esz ∧ 0 ≤ lo ∧ lo ≤ h ∧ h ≤ len ∧ mx = none ∧ (lo < h ∨ lo = 0) then some (.arr b (start + lo.toNat) (h.toNat - lo.toNat) esz) else
    if sz = esz ∧ 0 ≤ lo ∧ lo = h ∧ h ≤ len ∧ mx = none then some (.row none false esz []) else none
  | .pl (.slice none 0 0) => if lo = 0 ∧ hi.getD 0 = 0 ∧ mx.getD 0 = 0 then some x else none
  | _ => none

def fillAV : List AV → List (Nat × Nat × AV) → Option (List AV)
  | cs, [] => some cs
  | cs, (o, n, x) :: r => match x.cells? with
    | some ns => if ns.length = n ∧ o + n ≤ cs.length then fillAV (over cs o ns) r else none
    | none => none
def PExp.ev (e : PExp) (st : AS) (H : AHeap) : Option AV :=
  match e with
  | .mov x => some (st.ev x)
  | .pick c a b => match st.ev c with
    | .bool true => some (st.ev a)
    | .bool false => some (st.ev b)
    | _ => none
  | .load n x => match n, st.cellsAt H (st.ev x) with
    | none, some (c :: _) => some c
    | some n, some cs => if n ≤ cs.length then some (.agg (cs.take n)) else none
    | _, _ => none
  | .nilck x => nilckAV (st.ev x)
  | .bin op x y => binAV op (st.ev x) (st.ev y)
  | .un op x => unAV op (st.ev x)
  | .i2i k x => match st.ev x with
    | .int _ n => some (.int k (k.wrap n))
    | _ => none
  | .off o x => offAV o (st.ev x)
  | .iaddr esz x i => match (st.ev i).asI with
    | some n => iaddrAV esz (st.ev x) n
    | none => none
  | .idxS x i => match st.ev x, (st.ev i).asI with
    | .str s, some n => if 0 ≤ n ∧ n < s.length then some (.int .u8 (s.getD n.toNat 0).toNat) else none
    | _, _ => none
  | .slS x lo hi => match st.ev x with
    | .str s => match st.bd lo 0, st.bd hi s.length with
      | some l, some h => if 0 ≤ l ∧ l ≤ h ∧ h ≤ s.length then some (.str ((s.take h.toNat).drop l.toNat)) else none
      | _, _ => none
    | _ => none
  | .slR esz x lo hi mx => match st.bd lo 0, (hi.map fun o => (st.ev o).asI), (mx.map fun o => (st.ev o).asI) with
    | some l, none, none => slRAV esz (st.ev x) l none none
    | some l, some (some h), none => slRAV esz (st.ev x) l (some h) none
    | some l, some (some h), some (some m) => slRAV esz (st.ev x) l (some h) (some m)
    | _, _, _ => none
  | .extr x i => match st.ev x with
    | .tup vs => vs[i]?
    | _ => none
  | .lenS x => match st.ev x with
    | .str s => some (.int .i64 s.length)
    | _ => none
  | .lenR x => match st.ev x with
    | .row _ _ _ es => some (.int .i64 es.length)
    | .arr _ _ n _ => some (.int .i64 n)
    | .pl (.slice none n _) => some (.int .i64 n)
    | _ => none
  | .mkfn f first captured => if (first.map st.ev).all AV.glob && (captured.map st.ev).all AV.glob then some (.fn f (first.map st.ev) (captured.map st.ev)) else none
  | .build zero parts => (fillAV zero (parts.map fun p => (p.1, p.2.1, st.ev p.2.2))).map .agg

section
variable {W0 : World} {G0 : Ghost} {w0 : World} {N : Nat} {G : Ghost} {L : Nat → Option Nat} {st : AS} {H : AHeap} {ca : Act} {w : World} {P : Program}

theorem getD_drop {α : Type} (l : List α) (o j : Nat) (d : α) : (l.drop o).getD j d = l.getD (o + j) d := by
  simp [List.getD_eq_getElem?_getD, List.getElem?_drop]
theorem getD_take {α : Type} (l : List α) (n j : Nat) (d : α) (h : j < n) : (l.take n).getD j d = l.getD j d := by
  simp [List.getD_eq_getElem?_getD, List.getElem?_take_of_lt h]

/-- Where cells are read. -/
theorem Rel.cellsAt (h : Rel W0 G0 w0 N G L st H ca w) {x : AV} {v : Value} {cs : List AV} (hv : SRel G L x v) (hc : st.cellsAt H x = some cs) :
    ∃ B o, v = .pointer (some ⟨B, o, none⟩) ∧ ∀ j, j < cs.length → ∃ u, w.cell? ⟨B, o + j, none⟩ = some u ∧ VRel G (cs.getD j .any) u := by
  cases x with
  | ref b off =>
    have := hv.rel (by simp)
    cases this with
    | ref _ _ B hB =>
      simp only [AS.cellsAt] at hc
      split at hc
      · rename_i l hl
        cases hc
        obtain ⟨B', vs, ty, fz, hB', hh, hs, hfz, hle, hcv⟩ := h.inv.obj b _ hl
        rw [hB] at hB'; cases hB'
        refine ⟨B, off, rfl, fun j hj => ?_⟩
        simp only [List.length_drop] at hj
        have hlt : off + j < l.length := by omega
        refine ⟨vs.toList.getD (off + j) undef, ?_, ?_⟩
        · simp only [World.cell?, hh]
          rw [List.getD_eq_getElem?_getD, List.getElem?_eq_getElem (by simp; omega)]
          simp
        · rw [getD_drop]
          exact (hcv (off + j) hlt).2
      · cases hc
  | lref t off =>
    rcases hv with ⟨t', off', B, e, hB, rfl⟩ | hv
    · cases e
      simp only [AS.cellsAt, Option.map_eq_some_iff] at hc
      obtain ⟨l, hl, rfl⟩ := hc
      obtain ⟨B', vs, ty, hB', _, _, hh, hr, _⟩ := h.locs t l hl
      rw [hB] at hB'; cases hB'
      refine ⟨B, off, rfl, fun j hj => ?_⟩
      simp only [List.length_drop] at hj
      have hlt : off + j < l.length := by omega
      refine ⟨vs.getD (off + j) undef, ?_, ?_⟩
      · simp only [World.cell?, hh]
        rw [List.getD_eq_getElem?_getD, List.getElem?_eq_getElem (by rw [hr.1]; omega)]
        simp
      · rw [getD_drop]; exact hr.2 _ hlt
    · cases hv
  | eref l =>
    have := hv.rel (by simp)
    cases this with
    | eref _ B o cv hm hcv =>
      simp only [AS.cellsAt] at hc
      cases hc
      exact ⟨B, o, rfl, fun j hj => ⟨cv j, (h.inv.imm _ _ _ (hm j hj)).2, hcv j hj⟩⟩
  | _ => simp [AS.cellsAt] at hc

theorem run_scalar_load {t : TypeId} {d : TypeDesc} {i : TypeInfo} (w : World) (B o : Nat) (u : Value) (hu : P.underlying t = some d) (hd : d.isRow = false) (hc : w.cell? ⟨B, o, none⟩ = some u) :
    (Instr.loadAt t (.pointer (some ⟨B, o, none⟩))).run P w = .ok u w := by
  have hagg : (isAgg t).run P w = .ok false w := by
    unfold isAgg
    rw [Sem.run_bind, run_underlying hu w]
    cases d <;> simp_all
  simp [Instr.loadAt, Instr.sureAddr, loadVar, hagg, hc]

theorem load_sound (h : Rel W0 G0 w0 N G L st H ca w) {t : TypeId} {d : TypeDesc} {i : TypeInfo} (hu : P.underlying t = some d) (hi : P.info? t = some i)
    {x : Operand} {y : Opd} (hx : cOpd N x = some y) {r : AV} (hr : (PExp.load (if d.isRow then some i.size else none) y).ev st H = some r) :
    ∃ v, (Instr.loadAt t (ca.eval x)).run P w = .ok v w ∧ VRel G r v := by
  have hv := h.opd hx
  simp only [PExp.ev] at hr
  cases hd : d.isRow with
  | false =>
    rw [hd] at hr
    simp at hr
    split at hr
    · rename_i c cs _ hcs
      cases hr
      obtain ⟨B, o, e, hc⟩ := h.cellsAt hv hcs
      obtain ⟨u, hu1, hu2⟩ := hc 0 (by simp)
      rw [e]
      exact ⟨u, run_scalar_load (i := i) w B o u hu hd (by simpa using hu1), by simpa using hu2⟩
    · rename_i q1 q2; simp at q1
    · cases hr
  | true =>
    rw [hd] at hr
    simp at hr
    split at hr
    · rename_i q1 q2; simp at q1
    · rename_i n cs q1 hcs
      cases q1
      split at hr
      · rename_i hn
        cases hr
        obtain ⟨B, o, e, hc⟩ := h.cellsAt hv hcs
        have : ∃ vs : List Value, vs.length = i.size ∧ ∀ j, j < i.size → w.cell? ⟨B, o + j, none⟩ = some (vs.getD j undef) ∧ VRel G (cs.getD j .any) (vs.getD j undef) := by
          have key : ∀ n, n ≤ i.size → ∃ vs : List Value, vs.length = n ∧ ∀ j, j < n → w.cell? ⟨B, o + j, none⟩ = some (vs.getD j undef) ∧ VRel G (cs.getD j .any) (vs.getD j undef) := by
            intro n
            induction n with
            | zero => intro _; exact ⟨[], rfl, fun j hj => by omega⟩
            | succ n ih =>
              intro hle
              obtain ⟨vs, hl, hvs⟩ := ih (by omega)
              obtain ⟨u, hu1, hu2⟩ := hc n (by omega)
              refine ⟨vs ++ [u], by simp [hl], fun j hj => ?_⟩
              by_cases e : j = n
              · subst e
                have e2 : (vs ++ [u]).getD j undef = u := by
                  rw [List.getD_eq_getElem?_getD, List.getElem?_append_right (by omega)]; simp [hl]
                rw [e2]
                exact ⟨hu1, hu2⟩
              · have e2 : (vs ++ [u]).getD j undef = vs.getD j undef := by
                  rw [List.getD_eq_getElem?_getD, List.getElem?_append_left (by omega), List.getD_eq_getElem?_getD]
                rw [e2]
                exact hvs j (by omega)
          exact key i.size (Nat.le_refl _)
        obtain ⟨vs, hl, hvs⟩ := this
        rw [e]
        refine ⟨.agg vs.toArray, run_loadAt_mid w B o t vs d (fun j v hj => ?_) hu hd (by rw [hi]; simp [hl]), .agg _ _ (by simp [hl]; omega) (fun j hj => ?_)⟩
        · have hlt : j < vs.length := (List.getElem?_eq_some_iff.1 hj).1
          have := (hvs j (by omega)).1
          rwa [List.getD_eq_getElem?_getD, hj] at this
        · simp at hj
          rw [getD_take _ _ _ _ (by omega)]
          exact (hvs j (by omega)).2
      · cases hr
    · cases hr
end
end Go.Qa
