/- The abstract machine, part 4: the state of a function's body, and the operations that only compute. -/
import Derived.Test.YtanfmlmcddanjaaGreatDoorRQaMem2
set_option linter.all false
namespace Go.Qa
open Go Go.RowKit

/-! ### Bytes -/
def bs (l : List UInt8) : ByteArray := ⟨l.toArray⟩
theorem bs_size (l : List UInt8) : (bs l).size = l.length := by simp [bs, ByteArray.size]
theorem bs_data (l : List UInt8) : (bs l).data.toList = l := by simp [bs]
theorem bs_of (s : ByteArray) : bs s.data.toList = s := by cases s; simp [bs]
theorem bs_get (l : List UInt8) (i : Nat) : (bs l)[i]? = l[i]? := by
  by_cases h : i < l.length
  · rw [List.getElem?_eq_getElem h]
    have : i < (bs l).size := by rw [bs_size]; exact h
    rw [getElem?_pos (bs l) i this]
    rfl
  · rw [List.getElem?_eq_none (by omega), getElem?_neg]
    rw [bs_size]; exact h
theorem bs_extract (l : List UInt8) (a b : Nat) : (bs l).extract a b = bs ((l.take b).drop a) := by
  apply ByteArray.ext
  apply Array.ext'
  simp [bs, ByteArray.data_extract, List.drop_take]
theorem bs_append (l m : List UInt8) : bs l ++ bs m = bs (l ++ m) := by
  apply ByteArray.ext
  simp [bs]
theorem bs_toList (l : List UInt8) : (bs l).toList = l := by
  have key : ∀ (s : ByteArray), s.toList = s.data.toList := by
    intro s
    have h : ∀ (n i : Nat) (acc : List UInt8), s.size - i = n → ByteArray.toList.loop s i acc = acc.reverse ++ s.data.toList.drop i := by
      intro n
      induction n with
      | zero =>
        intro i acc hn
        rw [ByteArray.toList.loop.eq_1, if_neg (by omega), List.drop_eq_nil_of_le]
        · simp
        · rw [Array.length_toList]; show s.size ≤ i; omega
      | succ n ih =>
        intro i acc hn
        have hlt : i < s.size := by omega
        rw [ByteArray.toList.loop.eq_1, if_pos hlt, ih _ _ (by omega)]
        have hl : i < s.data.toList.length := by rw [Array.length_toList]; exact hlt
        rw [List.drop_eq_getElem_cons hl]
        simp [ByteArray.get!, hlt]
        try (rw [getElem!_pos]; exact hlt)
    have := h s.size 0 [] rfl
    simpa [ByteArray.toList] using this
  rw [key, bs_data]

/-! ### The state -/
/-- What a slot's new block holds, while nobody has it yet. -/
inductive PObj where
  | cells (cs : List AV)
  | map
  | arr (n cap esz : Nat) (cs : List AV)
  deriving Inhabited
structure AS where
  s : Nat → AV
  loc : Nat → Option (List AV)
  pnd : Nat → Option PObj := fun _ => none
def AS.set (st : AS) (d : Option Nat) (x : AV) : AS :=
  match d with
  | some t => { st with s := fun i => if i = t then x else st.s i, pnd := fun i => if i = t then none else st.pnd i }
  | none => st

inductive Opd where
  | t (i : Nat)
  | c (x : AV)
  deriving Inhabited
def AS.ev (st : AS) : Opd → AV
  | .t i => st.s i
  | .c x => x

def SRel (G : Ghost) (L : Nat → Option Nat) (x : AV) (v : Value) : Prop :=
  (∃ t off B, x = .lref t off ∧ L t = some B ∧ v = .pointer (some ⟨B, off, none⟩)) ∨ VRel G x v

/-- The marks that loops over functions have left among the deferred calls. -/
def Marks (w0 : World) (G : Ghost) (ds : List Deferred) (w : World) : Prop :=
  ∃ Ds : List Nat, ds = Ds.map (fun D => ({ target := .collected D, args := #[] } : Deferred)) ∧ Ds.Nodup ∧ ∀ D ∈ Ds, w0.heap.size ≤ D ∧ G.sz D = none ∧ w.heap[D]? = some (.deferred (some []))
theorem Marks.nil (w0 : World) (G : Ghost) (w : World) : Marks w0 G [] w := ⟨[], rfl, List.nodup_nil, by simp⟩
theorem Marks.go {w0 w w' : World} {G G' : Ghost} {ds : List Deferred} (h : Marks w0 G ds w) (hs : ∀ D, D < w.heap.size → G.sz D = none → G'.sz D = none)
    (hh : ∀ D, G.sz D = none → w.heap[D]? = some (.deferred (some [])) → w'.heap[D]? = w.heap[D]?) : Marks w0 G' ds w' := by
  obtain ⟨Ds, h1, h2, h3⟩ := h
  refine ⟨Ds, h1, h2, fun D hD => ?_⟩
  obtain ⟨a, b, c⟩ := h3 D hD
  exact ⟨a, hs D (Array.getElem?_eq_some_iff.1 c).1 b, (hh D b c).trans c⟩
theorem Marks.next {w0 w w' : World} {G G' : Ghost} {ds : List Deferred} (h : Marks w0 G ds w) (hn : Next G w G' w') : Marks w0 G' ds w' := by
  refine h.go (fun D hD hz => ?_) (fun D hz hd => hn.keep D (Array.getElem?_eq_some_iff.1 hd).1 hz)
  rcases e : G'.sz D with _ | n
  · rfl
  · rcases hn.fresh D n e with q | q
    · rw [q] at hz; cases hz
    · omega

/-- A new block of no ghost, and the value that leads to it. -/
def PRel (G : Ghost) (w : World) (B : Nat) (v : Value) : PObj → Prop
  | .cells cs => v = .pointer (some ⟨B, 0, none⟩) ∧ ∃ vs ty, w.heap[B]? = some (.cells vs ty (0, 0)) ∧ VRels G cs vs.toList ∧ ∀ c ∈ cs, c.one = true
  | .map => v = .map (some B) ∧ w.heap[B]? = some (.map #[] 0)
  | .arr n cap esz cs => v = .slice (some ⟨B, 0, none⟩) n cap ∧ n ≤ cap ∧ cap ≤ maxLen ∧ ∃ vs ty, w.heap[B]? = some (.cells vs ty (0, 0)) ∧ VRels G cs vs.toList ∧ (∀ c ∈ cs, c.one = true) ∧ cap * esz ≤ vs.size
theorem PRel.go {G G' : Ghost} {w w' : World} {B : Nat} {v : Value} {o : PObj} (h : PRel G w B v o) (hg : G.le G') (hw : w'.heap[B]? = w.heap[B]?) : PRel G' w' B v o := by
  cases o with
  | cells cs => obtain ⟨h1, vs, ty, h2, h3, h4⟩ := h; exact ⟨h1, vs, ty, hw.trans h2, h3.mono hg, h4⟩
  | map => exact ⟨h.1, hw.trans h.2⟩
  | arr n cap esz cs => obtain ⟨h1, ha, hb, vs, ty, h2, h3, h4⟩ := h; exact ⟨h1, ha, hb, vs, ty, hw.trans h2, h3.mono hg, h4⟩
theorem PRel.lt {G : Ghost} {w : World} {B : Nat} {v : Value} {o : PObj} (h : PRel G w B v o) : B < w.heap.size := by
  cases o with
  | cells cs => obtain ⟨h1, vs, ty, h2, _⟩ := h; exact (Array.getElem?_eq_some_iff.1 h2).1
  | map => exact (Array.getElem?_eq_some_iff.1 h.2).1
  | arr n cap esz cs => obtain ⟨h1, _, _, vs, ty, h2, _⟩ := h; exact (Array.getElem?_eq_some_iff.1 h2).1
/-- The slots whose blocks nobody has yet. -/
def Pnds (w0 : World) (N : Nat) (G : Ghost) (L : Nat → Option Nat) (st : AS) (tmps : Array Value) (w : World) : Prop :=
  ∃ M : Nat → Option Nat, (∀ t o, st.pnd t = some o → t < N ∧ st.s t = .any ∧ ∃ B, M t = some B ∧ w0.heap.size ≤ B ∧ G.sz B = none ∧ PRel G w B (tmps.getD t undef) o) ∧
    (∀ t t', st.pnd t ≠ none → st.pnd t' ≠ none → M t = M t' → t = t') ∧ ∀ t l, st.pnd t ≠ none → st.loc l ≠ none → M t ≠ L l
theorem Pnds.nil {w0 : World} {N : Nat} {G : Ghost} {L : Nat → Option Nat} {st : AS} {tmps : Array Value} {w : World} (h : ∀ t, st.pnd t = none) : Pnds w0 N G L st tmps w := by
  refine ⟨fun _ => none, ?_, ?_, ?_⟩
  · intro t o e; rw [h] at e; cases e
  · intro t _ e; exact absurd (h t) e
  · intro t _ e; exact absurd (h t) e
/-- They stay, where their blocks stay. -/
theorem Pnds.go {w0 : World} {N : Nat} {G G' : Ghost} {L : Nat → Option Nat} {st : AS} {tmps : Array Value} {w w' : World} (h : Pnds w0 N G L st tmps w) (hg : G.le G')
    (hb : ∀ B, w0.heap.size ≤ B → B < w.heap.size → G.sz B = none → (∃ t o, st.pnd t = some o ∧ PRel G w B (tmps.getD t undef) o) → G'.sz B = none ∧ w'.heap[B]? = w.heap[B]?) : Pnds w0 N G' L st tmps w' := by
  obtain ⟨M, h1, h2, h3⟩ := h
  refine ⟨M, fun t o e => ?_, h2, h3⟩
  obtain ⟨a, b, B, c, d, f, g⟩ := h1 t o e
  obtain ⟨p, q⟩ := hb B d g.lt f ⟨t, o, e, g⟩
  exact ⟨a, b, B, c, d, p, g.go hg q⟩

structure Rel (W0 : World) (G0 : Ghost) (w0 : World) (N : Nat) (G : Ghost) (L : Nat → Option Nat) (st : AS) (H : AHeap) (ca : Act) (w : World) : Prop where
  bw : W0.heap.size ≤ w0.heap.size
  next : Next G0 w0 G w
  inv : HInv W0 H G w
  defers : Marks w0 G ca.defers w
  size : ca.tmps.size = N
  slots : ∀ t, t < N → SRel G L (st.s t) (ca.tmps.getD t undef)
  locs : ∀ t cs, st.loc t = some cs → ∃ B vs ty, L t = some B ∧ w0.heap.size ≤ B ∧ G.sz B = none ∧ w.heap[B]? = some (.cells vs.toArray ty (0, 0)) ∧ VRels G cs vs ∧ ∀ c ∈ cs, c.one = true
  linj : ∀ t t' B, st.loc t ≠ none → st.loc t' ≠ none → L t = some B → L t' = some B → t = t'
  lrefs : ∀ t i off, t < N → st.s t = .lref i off → st.loc i ≠ none
  pnds : Pnds w0 N G L st ca.tmps w

def Reach (W0 : World) (G0 : Ghost) (w0 : World) (N : Nat) (st : AS) (H : AHeap) (ca : Act) (w : World) : Prop := ∃ G L, Rel W0 G0 w0 N G L st H ca w

section
variable {W0 : World} {G0 : Ghost} {w0 : World} {N : Nat} {G : Ghost} {L : Nat → Option Nat} {st : AS} {H : AHeap} {ca : Act} {w : World} {P : Program}

theorem SRel.of {x : AV} {v : Value} (h : VRel G x v) : SRel G L x v := .inr h
theorem SRel.int {k : IntKind} {n : Int} {v : Value} (h : SRel G L (.int k n) v) : v = .int k n := by
  rcases h with ⟨_, _, _, e, _⟩ | h
  · cases e
  · cases h; rfl
theorem SRel.bool {b : Bool} {v : Value} (h : SRel G L (.bool b) v) : v = .bool b := by
  rcases h with ⟨_, _, _, e, _⟩ | h
  · cases e
  · cases h; rfl
theorem SRel.str {s : List UInt8} {v : Value} (h : SRel G L (.str s) v) : v = .string (bs s) ∧ s.length ≤ maxLen := by
  rcases h with ⟨_, _, _, e, _⟩ | h
  · cases e
  · cases h with | str _ hl => exact ⟨rfl, hl⟩
theorem SRel.pl {u v : Value} (h : SRel G L (.pl u) v) : v = u := by
  rcases h with ⟨_, _, _, e, _⟩ | h
  · cases e
  · cases h; rfl
theorem SRel.rel {x : AV} {v : Value} (h : SRel G L x v) (hx : ∀ t off, x ≠ .lref t off) : VRel G x v := by
  rcases h with ⟨t, off, _, e, _⟩ | h
  · exact absurd e (hx t off)
  · exact h

/-- The operands. -/
def AV.ofCell : Value → Option AV
  | .int k n => some (.int k n)
  | .bool b => some (.bool b)
  | .string s => if s.size ≤ maxLen then some (.str s.data.toList) else none
  | .agg _ | .tuple _ => none
  | v => some (.pl v)
def AV.ofConst : Value → Option AV
  | .agg cs => (cs.toList.mapM AV.ofCell).map .agg
  | v => AV.ofCell v
theorem AV.ofCell_rel {v : Value} {x : AV} (h : AV.ofCell v = some x) : VRel G x v ∧ x.one = true ∧ v.oneCell' = true := by
  unfold AV.ofCell at h
  split at h
  · cases h; exact ⟨.int _ _, rfl, rfl⟩
  · cases h; exact ⟨.bool _, rfl, rfl⟩
  · rename_i s
    split at h
    · rename_i hs
      cases h
      refine ⟨?_, rfl, rfl⟩
      have := VRel.str (G := G) s.data.toList (by rw [Array.length_toList]; exact hs)
      have e : (⟨s.data.toList.toArray⟩ : ByteArray) = s := by cases s; simp
      rwa [e] at this
    · cases h
  · cases h
  · cases h
  · rename_i h1 h2 h3 h4 h5
    cases h
    have : v.oneCell' = true := by cases v <;> simp_all [Value.oneCell']
    exact ⟨.pl _, this, this⟩
theorem mapM_cells {vs : List Value} : ∀ {cs : List AV}, vs.mapM AV.ofCell = some cs → VRels G cs vs ∧ ∀ c ∈ cs, c.one = true := by
  induction vs with
  | nil => intro cs h; simp at h; subst h; exact ⟨.nil G, by simp⟩
  | cons v vs ih =>
    intro cs h
    simp only [List.mapM_cons, Option.bind_eq_bind, Option.bind_eq_some_iff, Option.pure_def, Option.some.injEq] at h
    obtain ⟨x, hx, ys, hy, rfl⟩ := h
    obtain ⟨p, q, _⟩ := AV.ofCell_rel (G := G) hx
    obtain ⟨r, s⟩ := ih hy
    exact ⟨.cons p r, by simp; exact ⟨q, s⟩⟩
theorem AV.ofConst_rel {v : Value} {x : AV} (h : AV.ofConst v = some x) : VRel G x v := by
  unfold AV.ofConst at h
  split at h
  · rename_i cs
    simp only [Option.map_eq_some_iff] at h
    obtain ⟨l, hl, rfl⟩ := h
    have := (mapM_cells (G := G) hl).1
    have e := VRel.agg (G := G) l cs.toList this.1 this.2
    simpa using e
  · exact (AV.ofCell_rel h).1
def cOpd (N : Nat) : Operand → Option Opd
  | .tmp t => if t < N then some (.t t) else none
  | .const v => (AV.ofConst v).map .c
  | .func f => some (.c (.fn (.func f) [] []))
  | .global _ => none
theorem Rel.opd (h : Rel W0 G0 w0 N G L st H ca w) {x : Operand} {y : Opd} (hx : cOpd N x = some y) : SRel G L (st.ev y) (ca.eval x) := by
  cases x with
  | tmp t =>
    simp only [cOpd] at hx
    split at hx
    · cases hx; exact h.slots t (by assumption)
    · cases hx
  | const v =>
    simp only [cOpd, Option.map_eq_some_iff] at hx
    obtain ⟨a, ha, rfl⟩ := hx
    exact .of (AV.ofConst_rel ha)
  | func f =>
    simp only [cOpd] at hx
    cases hx
    exact .of (.fn _ [] [] [] [] rfl rfl (fun j hj => by simp at hj) (fun j hj => by simp at hj))
  | global g => simp [cOpd] at hx

/-- A slot is written. -/
theorem Rel.set (h : Rel W0 G0 w0 N G L st H ca w) (d : Option Nat) {x : AV} {v : Value} (hx : SRel G L x v) (hl : ∀ i off, x = .lref i off → st.loc i ≠ none) :
    Rel W0 G0 w0 N G L (st.set d x) H (ca.put d v) w := by
  cases d with
  | none => exact h
  | some d =>
    refine { bw := h.bw, next := h.next, inv := h.inv, defers := h.defers, size := by simp [Act.put, h.size], slots := fun t ht => ?_, locs := h.locs, linj := h.linj, lrefs := fun t i off ht e => ?_, pnds := ?_ }
    · simp only [AS.set, Act.put]
      by_cases e : t = d
      · subst e
        rw [if_pos rfl]
        have : (ca.tmps.setIfInBounds t v).getD t undef = v := by
          rw [Array.getD_eq_getD_getElem?, Array.getElem?_setIfInBounds_self, if_pos (by rw [h.size]; exact ht)]; rfl
        rw [this]; exact hx
      · rw [if_neg e]
        have : (ca.tmps.setIfInBounds d v).getD t undef = ca.tmps.getD t undef := by
          rw [Array.getD_eq_getD_getElem?, Array.getElem?_setIfInBounds_ne (fun q => e q.symm), Array.getD_eq_getD_getElem?]
        rw [this]; exact h.slots t ht
    · simp only [AS.set] at e ⊢
      by_cases q : t = d
      · rw [if_pos q] at e; exact hl i off e
      · rw [if_neg q] at e; exact h.lrefs t i off ht e
    · obtain ⟨M, h1, h2, h3⟩ := h.pnds
      have key : ∀ t o, (st.set (some d) x).pnd t = some o → t ≠ d ∧ st.pnd t = some o := fun t o e => by
        simp only [AS.set] at e
        split at e
        · cases e
        · exact ⟨by assumption, e⟩
      have key2 : ∀ t, (st.set (some d) x).pnd t ≠ none → st.pnd t ≠ none := fun t e => by
        obtain ⟨o, ho⟩ := Option.ne_none_iff_exists'.1 e
        rw [(key t o ho).2]; simp
      refine ⟨M, fun t o e => ?_, fun t t' a b => h2 t t' (key2 t a) (key2 t' b), fun t l a b => h3 t l (key2 t a) b⟩
      obtain ⟨q, e⟩ := key t o e
      obtain ⟨a, b, B, c, d', f, g⟩ := h1 t o e
      refine ⟨a, by simp only [AS.set]; rw [if_neg q]; exact b, B, c, d', f, ?_⟩
      have : (ca.tmps.setIfInBounds d v).getD t undef = ca.tmps.getD t undef := by
        rw [Array.getD_eq_getD_getElem?, Array.getElem?_setIfInBounds_ne (fun q' => q q'.symm), Array.getD_eq_getD_getElem?]
      simp only [Act.put, this]
      exact g

/-- What an operand refers to in the function's own blocks is there. -/
theorem Rel.opd_loc (h : Rel W0 G0 w0 N G L st H ca w) {x : Operand} {y : Opd} (hx : cOpd N x = some y) {i off : Nat} (e : st.ev y = .lref i off) : st.loc i ≠ none := by
  cases x with
  | tmp t =>
    simp only [cOpd] at hx
    split at hx
    · cases hx; exact h.lrefs t i off (by assumption) e
    · cases hx
  | const v =>
    simp only [cOpd, Option.map_eq_some_iff] at hx
    obtain ⟨a, ha, rfl⟩ := hx
    simp only [AS.ev] at e
    subst e
    exact absurd (AV.ofConst_rel (G := G) ha) (by intro q; cases q)
  | func f => simp only [cOpd] at hx; cases hx; simp [AS.ev] at e
  | global g => simp [cOpd] at hx
end
end Go.Qa
