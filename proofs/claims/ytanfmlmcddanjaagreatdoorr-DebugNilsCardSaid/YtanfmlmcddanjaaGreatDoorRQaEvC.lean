/- The abstract machine: a run that the kernel can reckon: operations whose order is left open, reckoned in one order. -/
import Derived.Test.YtanfmlmcddanjaaGreatDoorRQaEvB
set_option linter.all false
namespace Go.Qa
open Go Go.RowKit

/-! ### What an operation reads -/
def Opd.rd : Opd → List Nat
  | .t i => [i]
  | .c _ => []
def optRd : Option Opd → List Nat
  | some x => x.rd
  | none => []
def PExp.rd : PExp → List Nat
  | .mov x | .load _ x | .nilck x | .un _ x | .i2i _ x | .off _ x | .extr x _ | .lenS x | .lenR x => x.rd
  | .pick c a b => c.rd ++ a.rd ++ b.rd
  | .bin _ x y | .iaddr _ x y | .idxS x y => x.rd ++ y.rd
  | .slS x lo hi => x.rd ++ optRd lo ++ optRd hi
  | .slR _ x lo hi mx => x.rd ++ optRd lo ++ optRd hi ++ optRd mx
  | .mkfn _ f c => f.flatMap Opd.rd ++ c.flatMap Opd.rd
  | .build _ ps => ps.flatMap fun p => p.2.2.rd
def XExp.rd : XExp → List Nat
  | .eqs _ _ x y | .imin x y | .imax x y => x.rd ++ y.rd
  | .lookup _ _ x i _ | .aaddr _ _ x i => x.rd ++ i.rd
  | .sarr _ _ x | .lenM x | .entry x | .b2s x | .ssame x | .mkif _ x | .fld _ _ x => x.rd
def EOp.rd : EOp → List Nat
  | .alloc _ _ | .mkmap | .no => []
  | .box _ x | .range x | .next x | .s2b _ x | .clr _ x => x.rd
  | .store _ x v => x.rd ++ v.rd
  | .call f args => f.rd ++ args.flatMap Opd.rd
  | .bslice _ xs => xs.flatMap Opd.rd
  | .append _ _ _ x y | .appendA _ _ _ x y | .mksl _ _ _ x y | .copy _ x y => x.rd ++ y.rd
  | .mupd _ m k v => m.rd ++ k.rd ++ v.rd
def AOp.rd : AOp → List Nat
  | .pu x => x.rd
  | .px x => x.rd
  | .ef x => x.rd
def AOper.rd (o : AOper) : List Nat := (match o.guard with | some (t, _) => [t] | none => []) ++ o.op.rd
def AOp.heapy : AOp → Bool
  | .pu (.load ..) | .px (.lookup ..) | .px (.sarr ..) | .px (.lenM _) | .px (.entry _) | .px (.b2s _) => true
  | _ => false

section
variable {st st' : AS} {h h' : EH} {go : GoE}
theorem ev_congr {x : Opd} (a : ∀ t ∈ x.rd, st.s t = st'.s t) : st.ev x = st'.ev x := by
  cases x with
  | t i => exact a i (by simp [Opd.rd])
  | c x => rfl
theorem map_congr' {xs : List Opd} (a : ∀ t ∈ xs.flatMap Opd.rd, st.s t = st'.s t) : xs.map st.ev = xs.map st'.ev := by
  apply List.map_congr_left
  intro x hx
  exact ev_congr fun t ht => a t (List.mem_flatMap.2 ⟨x, hx, ht⟩)
theorem bd_congr {x : Option Opd} {d : Nat} (a : ∀ t ∈ optRd x, st.s t = st'.s t) : st.bd x d = st'.bd x d := by
  cases x with
  | none => rfl
  | some x => simp only [AS.bd, ev_congr (x := x) a]
theorem om_congr {x : Option Opd} (a : ∀ t ∈ optRd x, st.s t = st'.s t) : (x.map fun o => (st.ev o).asI) = (x.map fun o => (st'.ev o).asI) := by
  cases x with
  | none => rfl
  | some x => simp only [Option.map_some, ev_congr (x := x) a]
theorem PExp.evE_congr {x : PExp} (a : ∀ t ∈ x.rd, st.s t = st'.s t) : x.evE st h = x.evE st' h := by
  cases x <;> simp only [PExp.rd, List.mem_append] at a
  case load n x => cases n <;> simp only [PExp.evE, ev_congr (x := x) a]
  case pick c x y => simp only [PExp.evE, PExp.ev, ev_congr (x := c) (fun t ht => a t (.inl (.inl ht))), ev_congr (x := x) (fun t ht => a t (.inl (.inr ht))), ev_congr (x := y) (fun t ht => a t (.inr ht))]
  case bin op x y => simp only [PExp.evE, PExp.ev, ev_congr (x := x) (fun t ht => a t (.inl ht)), ev_congr (x := y) (fun t ht => a t (.inr ht))]
  case iaddr op x y => simp only [PExp.evE, PExp.ev, ev_congr (x := x) (fun t ht => a t (.inl ht)), ev_congr (x := y) (fun t ht => a t (.inr ht))]
  case idxS x y => simp only [PExp.evE, PExp.ev, ev_congr (x := x) (fun t ht => a t (.inl ht)), ev_congr (x := y) (fun t ht => a t (.inr ht))]
  case slS x lo hi =>
    simp only [PExp.evE, PExp.ev, ev_congr (x := x) (fun t ht => a t (.inl (.inl ht))), bd_congr (x := lo) (fun t ht => a t (.inl (.inr ht)))]
    congr 1
    funext s
    rw [bd_congr (x := hi) (fun t ht => a t (.inr ht))]
  case slR n x lo hi mx =>
    simp only [PExp.evE, PExp.ev, ev_congr (x := x) (fun t ht => a t (.inl (.inl (.inl ht)))), bd_congr (x := lo) (fun t ht => a t (.inl (.inl (.inr ht)))), om_congr (x := hi) (fun t ht => a t (.inl (.inr ht))), om_congr (x := mx) (fun t ht => a t (.inr ht))]
  case mkfn f x y =>
    simp only [PExp.evE, PExp.ev, map_congr' (xs := x) (fun t ht => a t (.inl ht)), map_congr' (xs := y) (fun t ht => a t (.inr ht))]
  case build z ps =>
    have : (ps.map fun p => (p.1, p.2.1, st.ev p.2.2)) = (ps.map fun p => (p.1, p.2.1, st'.ev p.2.2)) := by
      apply List.map_congr_left
      intro p hp
      rw [ev_congr (x := p.2.2) fun t ht => a t (List.mem_flatMap.2 ⟨p, hp, ht⟩)]
    simp only [PExp.evE, PExp.ev, this]
  all_goals simp only [PExp.evE, PExp.ev, ev_congr a]
theorem XExp.evE_congr {x : XExp} (a : ∀ t ∈ x.rd, st.s t = st'.s t) : x.evE st h = x.evE st' h := by
  cases x <;> simp only [XExp.rd, List.mem_append] at a
  case eqs k n x y => simp only [XExp.evE, XExp.ev, ev_congr (x := x) (fun t ht => a t (.inl ht)), ev_congr (x := y) (fun t ht => a t (.inr ht))]
  case imin x y => simp only [XExp.evE, XExp.ev, ev_congr (x := x) (fun t ht => a t (.inl ht)), ev_congr (x := y) (fun t ht => a t (.inr ht))]
  case imax x y => simp only [XExp.evE, XExp.ev, ev_congr (x := x) (fun t ht => a t (.inl ht)), ev_congr (x := y) (fun t ht => a t (.inr ht))]
  case aaddr l e x y => simp only [XExp.evE, XExp.ev, ev_congr (x := x) (fun t ht => a t (.inl ht)), ev_congr (x := y) (fun t ht => a t (.inr ht))]
  case lookup k z x y ok => simp only [XExp.evE, XExp.ev, ev_congr (x := x) (fun t ht => a t (.inl ht)), ev_congr (x := y) (fun t ht => a t (.inr ht))]
  all_goals simp only [XExp.evE, XExp.ev, ev_congr a]
theorem EOp.evE_congr {x : EOp} (a : ∀ t ∈ x.rd, st.s t = st'.s t) : x.evE go st h = x.evE go st' h := by
  cases x <;> simp only [EOp.rd, List.mem_append] at a
  case alloc => rfl
  case mkmap => rfl
  case no => rfl
  case store n x y => simp only [EOp.evE, ev_congr (x := x) (fun t ht => a t (.inl ht)), ev_congr (x := y) (fun t ht => a t (.inr ht))]
  case mksl e b z x y => simp only [EOp.evE, ev_congr (x := x) (fun t ht => a t (.inl ht)), ev_congr (x := y) (fun t ht => a t (.inr ht))]
  case appendA e b s x y => simp only [EOp.evE, ev_congr (x := x) (fun t ht => a t (.inl ht)), ev_congr (x := y) (fun t ht => a t (.inr ht))]
  case copy e x y => simp only [EOp.evE, ev_congr (x := x) (fun t ht => a t (.inl ht)), ev_congr (x := y) (fun t ht => a t (.inr ht))]
  case append e b s x y => simp only [EOp.evE, ev_congr (x := x) (fun t ht => a t (.inl ht)), ev_congr (x := y) (fun t ht => a t (.inr ht))]
  case call f xs => simp only [EOp.evE, ev_congr (x := f) (fun t ht => a t (.inl ht)), map_congr' (xs := xs) (fun t ht => a t (.inr ht))]
  case bslice n xs => simp only [EOp.evE, map_congr' (xs := xs) a]
  case mupd k m x y => simp only [EOp.evE, ev_congr (x := m) (fun t ht => a t (.inl (.inl ht))), ev_congr (x := x) (fun t ht => a t (.inl (.inr ht))), ev_congr (x := y) (fun t ht => a t (.inr ht))]
  all_goals simp only [EOp.evE, ev_congr a]
theorem AOper.evE_congr {o : AOper} (a : ∀ t ∈ o.rd, st.s t = st'.s t) : o.evE go st h = o.evE go st' h := by
  have hop : o.op.evE go st h = o.op.evE go st' h := by
    have b : ∀ t ∈ o.op.rd, st.s t = st'.s t := fun t ht => a t (by simp only [AOper.rd, List.mem_append]; exact .inr ht)
    cases e : o.op with
    | pu x => rw [e] at b; simp only [AOp.evE, PExp.evE_congr (x := x) b]
    | px x => rw [e] at b; simp only [AOp.evE, XExp.evE_congr (x := x) b]
    | ef x => rw [e] at b; simp only [AOp.evE, EOp.evE_congr (x := x) b]
  unfold AOper.evE
  rw [hop]
  cases hg : o.guard with
  | none => rfl
  | some g =>
    have : st.s g.1 = st'.s g.1 := a g.1 (by simp [AOper.rd, hg])
    simp only [this]

/-- A quiet operation leaves the heap. -/
theorem AOper.quiet {o : AOper} (q : o.op.loud = false) {r : AV} (e : o.evE go st h = some (r, h')) : h' = h := by
  have key : ∀ r h', o.op.evE go st h = some (r, h') → h' = h := by
    intro r h' e
    cases ho : o.op with
    | pu x => rw [ho] at e; simp only [AOp.evE] at e; split at e <;> cases e; rfl
    | px x => rw [ho] at e; simp only [AOp.evE] at e; split at e <;> cases e; rfl
    | ef x =>
      rw [ho] at q e
      cases x <;> first | (cases q; done) | skip
      rename_i n xs
      simp only [AOp.evE, EOp.evE] at e
      obtain ⟨_, e⟩ := sel_some e
      cases e; rfl
  unfold AOper.evE at e
  split at e
  · exact key _ _ e
  · split at e
    · rw [sel_eq] at e
      split at e
      · exact key _ _ e
      · cases e; rfl
    · cases e; rfl
    · cases e
/-- One that does not read the heap gives the same at any. -/
theorem AOper.free {o : AOper} (q : o.op.loud = false) (f : o.op.heapy = false) {r : AV} (e : o.evE go st h = some (r, h')) (h2 : EH) : o.evE go st h2 = some (r, h2) := by
  have key : ∀ r h', o.op.evE go st h = some (r, h') → o.op.evE go st h2 = some (r, h2) := by
    intro r h' e
    cases ho : o.op with
    | pu x =>
      rw [ho] at e f
      have : x.evE st h2 = x.evE st h := by cases x <;> first | rfl | cases f
      simp only [AOp.evE, this] at e ⊢
      split at e <;> cases e
      simp_all
    | px x =>
      rw [ho] at e f
      have : x.evE st h2 = x.evE st h := by cases x <;> first | rfl | cases f
      simp only [AOp.evE, this] at e ⊢
      split at e <;> cases e
      simp_all
    | ef x =>
      rw [ho] at q e
      cases x <;> first | (cases q; done) | skip
      rename_i n xs
      simp only [AOp.evE, EOp.evE] at e ⊢
      obtain ⟨z, e⟩ := sel_some e
      rw [z, sel_true]
      cases e; rfl
  unfold AOper.evE at e ⊢
  split at e
  · exact key _ _ e
  · split at e
    · rw [sel_eq] at e ⊢
      split at e
      · rename_i c; rw [if_pos c]; exact key _ _ e
      · rename_i c; rw [if_neg c]; cases e; rfl
    · cases e; rfl
    · cases e
end

/-! ### Sameness of values -/
def plSame : Value → Value → Bool
  | .pointer none, .pointer none => true
  | .slice none n c, .slice none n' c' => Nat.beq n n' && Nat.beq c c'
  | .map none, .map none => true
  | .nilFunc, .nilFunc => true
  | .nilIface, .nilIface => true
  | .tuple ⟨[]⟩, .tuple ⟨[]⟩ => true
  | _, _ => false
theorem plSame_eq {x y : Value} (e : plSame x y = true) : x = y := by
  unfold plSame at e
  split at e
  · rfl
  · simp only [Bool.and_eq_true, Nat.beq_eq] at e; rw [e.1, e.2]
  · rfl
  · rfl
  · rfl
  · rfl
  · cases e
def sameL (f : AV → AV → Bool) : List AV → List AV → Bool
  | [], [] => true
  | x :: xs, y :: ys => f x y && sameL f xs ys
  | _, _ => false
theorem sameL_eq {f : AV → AV → Bool} (hf : ∀ x y, f x y = true → x = y) : ∀ (xs ys : List AV), sameL f xs ys = true → xs = ys
  | [], [], _ => rfl
  | x :: xs, y :: ys, e => by
    simp only [sameL, Bool.and_eq_true] at e
    rw [hf x y e.1, sameL_eq hf xs ys e.2]
  | [], _ :: _, e => by cases e
  | _ :: _, [], e => by cases e
def ownSame : Option (Nat × Nat) → Option (Nat × Nat) → Bool
  | none, none => true
  | some (a, b), some (c, d) => Nat.beq a c && Nat.beq b d
  | _, _ => false
theorem ownSame_eq {x y : Option (Nat × Nat)} (e : ownSame x y = true) : x = y := by
  unfold ownSame at e
  split at e
  · rfl
  · simp only [Bool.and_eq_true, Nat.beq_eq] at e; rw [e.1, e.2]
  · cases e
def sameF : Nat → AV → AV → Bool
  | 0, _, _ => false
  | n + 1, x, y => match x, y with
    | .int k a, .int k' b => decide (k = k') && decide (a = b)
    | .bool a, .bool b => a == b
    | .str a, .str b => a == b
    | .pl a, .pl b => plSame a b
    | .ref a b, .ref c d => Nat.beq a c && Nat.beq b d
    | .eref a, .eref b => sameL (sameF n) a b
    | .row o f e es, .row o' f' e' es' => ownSame o o' && f == f' && Nat.beq e e' && sameL (sameF n) es es'
    | .arr a b c d, .arr a' b' c' d' => Nat.beq a a' && Nat.beq b b' && Nat.beq c c' && Nat.beq d d'
    | .map a, .map b => Nat.beq a b
    | .itr a, .itr b => Nat.beq a b
    | .agg a, .agg b => sameL (sameF n) a b
    | .tup a, .tup b => sameL (sameF n) a b
    | _, _ => false
theorem sameF_eq : ∀ (n : Nat) (x y : AV), sameF n x y = true → x = y
  | 0, _, _, e => by cases e
  | n + 1, x, y, e => by
    have ih := sameL_eq (sameF_eq n)
    unfold sameF at e
    split at e
    · simp only [Bool.and_eq_true, decide_eq_true_eq] at e; rw [e.1, e.2]
    · rw [beq_iff_eq] at e; rw [e]
    · rw [beq_iff_eq] at e; rw [e]
    · rw [plSame_eq e]
    · simp only [Bool.and_eq_true, Nat.beq_eq] at e; rw [e.1, e.2]
    · rw [ih _ _ e]
    · simp only [Bool.and_eq_true, Nat.beq_eq, beq_iff_eq] at e; rw [ownSame_eq e.1.1.1, e.1.1.2, e.1.2, ih _ _ e.2]
    · simp only [Bool.and_eq_true, Nat.beq_eq] at e; rw [e.1.1.1, e.1.1.2, e.1.2, e.2]
    · rw [Nat.beq_eq] at e; rw [e]
    · rw [Nat.beq_eq] at e; rw [e]
    · rw [ih _ _ e]
    · rw [ih _ _ e]
    · cases e
end Go.Qa
