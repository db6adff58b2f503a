/- The abstract machine, part 1: abstract values, ghosts, how they stand to the model's values and worlds. -/
import Derived.Tactics
import Derived.Orders
import Derived.Below
import Derived.KernelRfl
import Derived.Deep.MidRow
import Derived.WalkKit
set_option linter.all false
namespace Go.Qa
open Go Go.RowKit

/-- An abstract value: a slice bears its contents. -/
inductive AV where
  | any
  | int (k : IntKind) (n : Int)
  | bool (b : Bool)
  | str (s : List UInt8)
  | pl (v : Value)
  | ref (b off : Nat)
  | eref (cells : List AV)
  | lref (t off : Nat)
  | row (own : Option (Nat × Nat)) (full : Bool) (esz : Nat) (es : List AV)
  | arr (b start len esz : Nat)
  | map (m : Nat)
  | itr (m : Nat)
  | fn (f : Fn) (first captured : List AV)
  | iface (t : TypeId) (x : AV)
  | agg (cells : List AV)
  | tup (vs : List AV)
  | yfn (b : Nat)
  deriving Inhabited

/-- It is one cell of memory. -/
def AV.one : AV → Bool
  | .any | .lref .. | .agg _ | .tup _ => false
  | .pl v => v.oneCell'
  | _ => true
/-- Its cells in memory, if they are known. -/
def AV.cells? : AV → Option (List AV)
  | .agg cs => if cs.all AV.one then some cs else none
  | x => if x.one then some [x] else none
def AV.cells (x : AV) : List AV := x.cells?.getD []

structure Ghost where
  bx : Nat → Option Nat
  imm : Nat → Nat → Option Value
  at_ : Nat → Nat → Option (Nat × Nat)
  sz : Nat → Option Nat

structure Ghost.le (G G' : Ghost) : Prop where
  bx : ∀ i B, G.bx i = some B → G'.bx i = some B
  imm : ∀ B o v, G.imm B o = some v → G'.imm B o = some v
  at_ : ∀ t n x, G.at_ t n = some x → G'.at_ t n = some x
  sz : ∀ B n, G.sz B = some n → G'.sz B = some n
  immf : ∀ B o v, G'.imm B o = some v → G.imm B o = some v ∨ G'.sz B ≠ none
theorem Ghost.le.refl (G : Ghost) : G.le G := ⟨fun _ _ h => h, fun _ _ _ h => h, fun _ _ _ h => h, fun _ _ h => h, fun _ _ _ h => .inl h⟩
theorem Ghost.le.trans {A B C : Ghost} (h : A.le B) (k : B.le C) : A.le C :=
  ⟨fun _ _ x => k.bx _ _ (h.bx _ _ x), fun _ _ _ x => k.imm _ _ _ (h.imm _ _ _ x), fun _ _ _ x => k.at_ _ _ _ (h.at_ _ _ _ x), fun _ _ x => k.sz _ _ (h.sz _ _ x), fun X o v q => by
    rcases k.immf X o v q with q | q
    · rcases h.immf X o v q with q | q
      · exact .inl q
      · rcases e : B.sz X with _ | n
        · exact absurd e q
        · exact .inr (by rw [k.sz X n e]; simp)
    · exact .inr q⟩

/-- The abstract value stands for the value. -/
inductive VRel (G : Ghost) : AV → Value → Prop
  | any (v : Value) : VRel G .any v
  | int (k : IntKind) (n : Int) : VRel G (.int k n) (.int k n)
  | bool (b : Bool) : VRel G (.bool b) (.bool b)
  | str (s : List UInt8) (h : s.length ≤ maxLen) : VRel G (.str s) (.string ⟨s.toArray⟩)
  | pl (v : Value) : VRel G (.pl v) v
  | ref (b off B : Nat) (h : G.bx b = some B) : VRel G (.ref b off) (.pointer (some ⟨B, off, none⟩))
  | eref (cells : List AV) (B o : Nat) (cv : Nat → Value)
      (hm : ∀ j, j < cells.length → G.imm B (o + j) = some (cv j))
      (hv : ∀ j, j < cells.length → VRel G (cells.getD j .any) (cv j)) : VRel G (.eref cells) (.pointer (some ⟨B, o, none⟩))
  | row (own : Option (Nat × Nat)) (full : Bool) (esz : Nat) (es : List AV) (a : Addr) (cap : Nat) (cv : Nat → Nat → Value)
      (hs : 0 < es.length → a.spot = none)
      (he : ∀ i, i < es.length → ∃ cs, (es.getD i .any).cells? = some cs ∧ cs.length = esz)
      (hm : ∀ i j, i < es.length → j < esz → G.imm a.block (a.off + (i * esz + j)) = some (cv i j))
      (hv : ∀ i j, i < es.length → j < esz → VRel G ((es.getD i .any).cells.getD j .any) (cv i j))
      (hc : es.length ≤ cap) (hx : cap ≤ maxLen) (hf : full = true → cap = es.length)
      (ho : ∀ t n, own = some (t, n) → a.spot = none ∧ G.at_ t n = some (a.block, a.off + es.length * esz) ∧ ∃ sz, G.sz a.block = some sz ∧ a.off + cap * esz ≤ sz) :
      VRel G (.row own full esz es) (.slice (some a) es.length cap)
  | arr (b start len esz B cap sz : Nat) (h : G.bx b = some B) (hc : len ≤ cap) (hx : cap ≤ maxLen) (hs : G.sz B = some sz) (hz : (start + cap) * esz ≤ sz) :
      VRel G (.arr b start len esz) (.slice (some ⟨B, start * esz, none⟩) len cap)
  | map (m B : Nat) (h : G.bx m = some B) : VRel G (.map m) (.map (some B))
  | yfn (b B : Nat) (h : G.bx b = some B) : VRel G (.yfn b) (.func (.yield B) #[] #[])
  | itr (m B : Nat) (h : G.bx m = some B) : VRel G (.itr m) (.pointer (some ⟨B, 0, none⟩))
  | fn (f : Fn) (first captured : List AV) (vf vc : List Value) (hlf : vf.length = first.length) (hlc : vc.length = captured.length)
      (hf : ∀ j, j < first.length → VRel G (first.getD j .any) (vf.getD j undef))
      (hc : ∀ j, j < captured.length → VRel G (captured.getD j .any) (vc.getD j undef)) : VRel G (.fn f first captured) (.func f vf.toArray vc.toArray)
  | iface (t : TypeId) (x : AV) (v : Value) (h : VRel G x v) : VRel G (.iface t x) (.iface t v)
  | agg (cs : List AV) (vs : List Value) (hl : vs.length = cs.length)
      (h : ∀ j, j < cs.length → VRel G (cs.getD j .any) (vs.getD j undef)) : VRel G (.agg cs) (.agg vs.toArray)
  | tup (cs : List AV) (vs : List Value) (hl : vs.length = cs.length)
      (h : ∀ j, j < cs.length → VRel G (cs.getD j .any) (vs.getD j undef)) : VRel G (.tup cs) (.tuple vs.toArray)

theorem VRel.mono {G G' : Ghost} (hg : G.le G') {x : AV} {v : Value} (h : VRel G x v) : VRel G' x v := by
  induction h with
  | any v => exact .any v
  | int k n => exact .int k n
  | bool b => exact .bool b
  | str s h => exact .str s h
  | pl v => exact .pl v
  | ref b off B h => exact .ref b off B (hg.bx _ _ h)
  | eref cells B o cv hm hv ih => exact .eref cells B o cv (fun j hj => hg.imm _ _ _ (hm j hj)) ih
  | row own full esz es a cap cv hs he hm hv hc hx hf ho ih =>
    exact .row own full esz es a cap cv hs he (fun i j hi hj => hg.imm _ _ _ (hm i j hi hj)) ih hc hx hf
      (fun t n e => let ⟨p, q, sz, r, s⟩ := ho t n e; ⟨p, hg.at_ _ _ _ q, sz, hg.sz _ _ r, s⟩)
  | arr b start len esz B cap sz h hc hx hs hz => exact .arr b start len esz B cap sz (hg.bx _ _ h) hc hx (hg.sz _ _ hs) hz
  | map m B h => exact .map m B (hg.bx _ _ h)
  | yfn b B h => exact .yfn b B (hg.bx _ _ h)
  | itr m B h => exact .itr m B (hg.bx _ _ h)
  | fn f first captured vf vc hlf hlc hf hc ihf ihc => exact .fn f first captured vf vc hlf hlc ihf ihc
  | iface t x v h ih => exact .iface t x v ih
  | agg cs vs hl h ih => exact .agg cs vs hl ih
  | tup cs vs hl h ih => exact .tup cs vs hl ih

/-- Lists of values. -/
def VRels (G : Ghost) (cs : List AV) (vs : List Value) : Prop := vs.length = cs.length ∧ ∀ j, j < cs.length → VRel G (cs.getD j .any) (vs.getD j undef)
theorem VRels.mono {G G' : Ghost} (hg : G.le G') {cs : List AV} {vs : List Value} (h : VRels G cs vs) : VRels G' cs vs := ⟨h.1, fun j hj => (h.2 j hj).mono hg⟩
theorem VRels.nil (G : Ghost) : VRels G [] [] := ⟨rfl, fun j hj => by simp at hj⟩
theorem VRels.cons {G : Ghost} {x : AV} {v : Value} {cs : List AV} {vs : List Value} (h : VRel G x v) (hs : VRels G cs vs) : VRels G (x :: cs) (v :: vs) := by
  refine ⟨by simp [hs.1], fun j hj => ?_⟩
  cases j with
  | zero => simpa using h
  | succ j => simpa using hs.2 j (by simpa using hj)
theorem VRels.head {G : Ghost} {x : AV} {cs : List AV} {vs : List Value} (h : VRels G (x :: cs) vs) : ∃ v vs', vs = v :: vs' ∧ VRel G x v ∧ VRels G cs vs' := by
  cases vs with
  | nil => simp [VRels] at h
  | cons v vs' =>
    refine ⟨v, vs', rfl, by simpa using h.2 0 (by simp), by simpa using h.1, fun j hj => ?_⟩
    simpa using h.2 (j + 1) (by simpa using hj)
theorem VRels.eq_nil {G : Ghost} {vs : List Value} (h : VRels G [] vs) : vs = [] := by simpa using h.1

theorem VRel.one {G : Ghost} {x : AV} {v : Value} (h : VRel G x v) (h1 : x.one = true) : v.oneCell' = true := by
  cases h <;> simp_all [AV.one, Value.oneCell']

theorem VRel.cells {G : Ghost} {x : AV} {v : Value} {cs : List AV} (h : VRel G x v) (hc : x.cells? = some cs) :
    VRels G cs v.cells.toList ∧ (∀ c ∈ cs, c.one = true) := by
  have single : x.one = true → v.oneCell' = true → cs = [x] → VRels G cs v.cells.toList ∧ (∀ c ∈ cs, c.one = true) := by
    intro h1 hv e
    subst e
    have : v.cells = #[v] := by cases v <;> simp_all [Value.cells, Value.oneCell']
    rw [this]
    exact ⟨.cons h (.nil G), by simpa using h1⟩
  have h0 := h
  cases h with
  | agg l vs hl hh =>
    simp only [AV.cells?] at hc
    split at hc
    · rename_i ha
      cases hc
      exact ⟨⟨by simpa [Value.cells] using hl, by simpa [Value.cells] using hh⟩, by simpa using ha⟩
    · cases hc
  | _ =>
    simp only [AV.cells?] at hc
    split at hc
    · rename_i h1
      exact single h1 (VRel.one h0 h1) (Option.some.inj hc).symm
    · cases hc

/-- An object of the abstract heap. -/
inductive AObj where
  | cells (cs : List AV)
  | row (n : Nat)
  | map (es : List (AV × AV × Nat)) (clock : Nat)
  | iter (m : Option Nat) (since : Nat) (seen : List Nat) (stepped : Nat)
  | siter (s : List UInt8) (pos : Nat)
  | loop (busy : Bool) (ss : List AV) (ps : List Nat) (asg body : Code) (pend : Option Code)
  | dead
  deriving Inhabited
abbrev AHeap := List AObj

def ORel (G : Ghost) (w : World) (i : Nat) : AObj → Prop
  | .cells cs => ∃ B vs ty fz, G.bx i = some B ∧ w.heap[B]? = some (.cells vs ty fz) ∧ G.sz B = some vs.size ∧ (∀ o, o < vs.size → ¬ (fz.1 ≤ o ∧ o < fz.2)) ∧ cs.length ≤ vs.size ∧
      (∀ j, j < cs.length → (cs.getD j .any).one = true ∧ VRel G (cs.getD j .any) (vs.toList.getD j undef))
  | .row n => ∃ B E vs ty fz, G.at_ i n = some (B, E) ∧ w.heap[B]? = some (.cells vs ty fz) ∧ G.sz B = some vs.size ∧ E ≤ vs.size ∧
      (∀ o, E ≤ o → G.imm B o = none) ∧ (∀ o, E ≤ o → o < vs.size → ¬ (fz.1 ≤ o ∧ o < fz.2))
  | .map es clock => ∃ B ms, G.bx i = some B ∧ w.heap[B]? = some (.map ms clock) ∧ ms.size = es.length ∧
      ∀ j, j < es.length → ∃ e m, es[j]? = some e ∧ ms[j]? = some m ∧ VRel G e.1 m.key ∧ VRel G e.2.1 m.val ∧ e.2.2 = m.born
  | .iter m since seen stepped => ∃ B, G.bx i = some B ∧ ∃ mB, w.heap[B]? = some (.mapIter mB since seen.toArray stepped) ∧
      (match m with | none => mB = none | some j => ∃ C, G.bx j = some C ∧ mB = some C)
  | .siter s pos => ∃ B, G.bx i = some B ∧ w.heap[B]? = some (.stringIter ⟨s.toArray⟩ pos)
  | .loop busy ss ps asg body pend => ∃ B r, G.bx i = some B ∧ w.heap[B]? = some (.loop r) ∧ r.state = (if busy then .busy else if pend.isNone then .ready else .done) ∧ r.pending = pend ∧ r.params = ps.toArray ∧ r.assign = asg ∧ r.body = body ∧ VRels G ss r.tmps.toList
  | .dead => True

/-- What is dead stays so. -/
theorem live_append {H : AHeap} {l : List AObj} {i : Nat} (hi : i < H.length) : (H ++ l)[i]? ≠ some AObj.dead → H[i]? ≠ some AObj.dead := by
  rw [List.getElem?_append_left hi]; exact id
theorem dead_append {H : AHeap} {l : List AObj} {i : Nat} (h : H[i]? = some AObj.dead) : (H ++ l)[i]? = some AObj.dead := by
  rw [List.getElem?_append_left (List.getElem?_eq_some_iff.1 h).1]; exact h
theorem live_set {H : AHeap} {b i : Nat} {x o : AObj} (hb : H[b]? = some x) (hx : x ≠ AObj.dead) : (H.set b o)[i]? ≠ some AObj.dead → H[i]? ≠ some AObj.dead := by
  intro h
  by_cases e : b = i
  · subst e; rw [hb]; simpa using hx
  · rwa [List.getElem?_set_ne e] at h
theorem dead_set {H : AHeap} {b i : Nat} {x o : AObj} (hb : H[b]? = some x) (hx : x ≠ AObj.dead) (h : H[i]? = some AObj.dead) : (H.set b o)[i]? = some AObj.dead := by
  by_cases e : b = i
  · subst e; rw [hb] at h; exact absurd (Option.some.inj h) hx
  · rwa [List.getElem?_set_ne e]

structure HInv (W0 : World) (H : AHeap) (G : Ghost) (w : World) : Prop where
  base : Below W0.heap.size W0 w
  lt : ∀ B n, G.sz B = some n → W0.heap.size ≤ B ∧ B < w.heap.size
  imm : ∀ B o v, G.imm B o = some v → (G.sz B ≠ none ∨ B < W0.heap.size) ∧ w.cell? ⟨B, o, none⟩ = some v
  bxs : ∀ i B, G.bx i = some B → i < H.length ∧ G.sz B ≠ none ∧ (H[i]? ≠ some AObj.dead → ∀ o, G.imm B o = none)
  inj : ∀ i j B, G.bx i = some B → G.bx j = some B → H[i]? ≠ some AObj.dead → H[j]? ≠ some AObj.dead → i = j
  ats : ∀ t n B E, G.at_ t n = some (B, E) → t < H.length ∧ G.sz B ≠ none ∧ ∀ i, G.bx i = some B → H[i]? = some AObj.dead
  obj : ∀ i o, H[i]? = some o → ORel G w i o
  cur : ∀ t t' n n' B E E', H[t]? = some (.row n) → H[t']? = some (.row n') → G.at_ t n = some (B, E) → G.at_ t' n' = some (B, E') → t = t'

/-- From one world to a later one: what G0 does not own, and was there, is as it was. -/
structure Next (G0 : Ghost) (w0 : World) (G : Ghost) (w : World) : Prop where
  le : G0.le G
  size : w0.heap.size ≤ w.heap.size
  keep : ∀ B, B < w0.heap.size → G0.sz B = none → w.heap[B]? = w0.heap[B]?
  fresh : ∀ B n, G.sz B = some n → G0.sz B = some n ∨ w0.heap.size ≤ B
theorem Next.refl (G : Ghost) (w : World) : Next G w G w := ⟨.refl G, Nat.le_refl _, fun _ _ _ => rfl, fun _ _ h => .inl h⟩
theorem Next.trans {A B C : Ghost} {u v w : World} (h : Next A u B v) (k : Next B v C w) : Next A u C w := {
  le := h.le.trans k.le
  size := Nat.le_trans h.size k.size
  keep X hX hn := by
    have hB : B.sz X = none := by
      rcases e : B.sz X with _ | n
      · rfl
      · exfalso
        rcases h.fresh X n e with q | q
        · rw [q] at hn; cases hn
        · omega
    exact (k.keep X (Nat.lt_of_lt_of_le hX h.size) hB).trans (h.keep X hX hn)
  fresh X n hX := by
    rcases k.fresh X n hX with q | q
    · exact h.fresh X n q
    · exact .inr (Nat.le_trans h.size q) }
end Go.Qa
