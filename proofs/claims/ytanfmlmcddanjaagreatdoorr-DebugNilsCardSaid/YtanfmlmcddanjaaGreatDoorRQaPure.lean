/- The abstract machine, part 5: the operations that only compute: what they give. -/
import Derived.Test.YtanfmlmcddanjaaGreatDoorRQaOps
set_option linter.all false
namespace Go.Qa
open Go Go.RowKit

/-- The kinds of comparison. -/
inductive SK where
  | i | b | s
  deriving Inhabited
inductive EK where
  | bool | ptr | sl | mp | fn | ifc
  | st (ks : List SK)
  deriving Inhabited
inductive PExp where
  | mov (x : Opd)
  | pick (c a b : Opd)
  | load (n : Option Nat) (x : Opd)
  | nilck (x : Opd)
  | bin (op : BinOp) (x y : Opd)
  | un (op : UnOp) (x : Opd)
  | i2i (k : IntKind) (x : Opd)
  | off (o : Nat) (x : Opd)
  | iaddr (esz : Nat) (x i : Opd)
  | idxS (x i : Opd)
  | slS (x : Opd) (lo hi : Option Opd)
  | slR (esz : Nat) (x : Opd) (lo hi mx : Option Opd)
  | extr (x : Opd) (i : Nat)
  | lenS (x : Opd)
  | lenR (x : Opd)
  | mkfn (f : Fn) (first captured : List Opd)
  | build (zero : List AV) (parts : List (Nat × Nat × Opd))
  deriving Inhabited

def AV.glob : AV → Bool
  | .lref .. => false
  | _ => true
def AV.asI : AV → Option Int
  | .int _ n => some n
  | _ => none
def AS.cellsAt (st : AS) (H : AHeap) : AV → Option (List AV)
  | .ref b off => match H[b]? with
    | some (.cells cs) => some (cs.drop off)
    | _ => none
  | .lref t off => (st.loc t).map (·.drop off)
  | .eref cs => some cs
  | _ => none
def intBin (op : BinOp) (k : IntKind) (a b : Int) : Option AV :=
  match op with
  | .add => some (.int k (k.wrap (a + b)))
  | .sub => some (.int k (k.wrap (a - b)))
  | .mul => some (.int k (k.wrap (a * b)))
  | .quo => if b = 0 then none else some (.int k (k.wrap (a.tdiv b)))
  | .rem => if b = 0 then none else some (.int k (a.tmod b))
  | .and => some (.int k (k.wrap (BitVec.ofInt k.bits a &&& BitVec.ofInt k.bits b).toNat))
  | .or => some (.int k (k.wrap (BitVec.ofInt k.bits a ||| BitVec.ofInt k.bits b).toNat))
  | .xor => some (.int k (k.wrap (BitVec.ofInt k.bits a ^^^ BitVec.ofInt k.bits b).toNat))
  | .eql => some (.bool (a == b))
  | .neq => some (.bool (a != b))
  | .lss => some (.bool (decide (a < b)))
  | .leq => some (.bool (decide (a ≤ b)))
  | .gtr => some (.bool (decide (b < a)))
  | .geq => some (.bool (decide (b ≤ a)))
  | _ => none
def strBin (op : BinOp) (a b : List UInt8) : Option AV :=
  match op with
  | .add => if a.length + b.length ≤ maxLen then some (.str (a ++ b)) else none
  | .eql => some (.bool (a == b))
  | .neq => some (.bool (!(a == b)))
  | .lss => some (.bool (Op.bytesLess a b))
  | .leq => some (.bool (Op.bytesLess a b || a == b))
  | .gtr => some (.bool (!(Op.bytesLess a b || a == b)))
  | .geq => some (.bool (!Op.bytesLess a b))
  | _ => none
def binAV (op : BinOp) (x y : AV) : Option AV :=
  match x, y with
  | .int k a, .int k' b =>
    match op with
    | .shl => if b < 0 then none else some (.int k (k.wrap (a * 2 ^ min b.toNat k.bits)))
    | .shr => if b < 0 then none else some (.int k (a.fdiv (2 ^ min b.toNat k.bits)))
    | _ => if k = k' then intBin op k a b else none
  | .str a, .str b => strBin op a b
  | _, _ => none
def unAV (op : UnOp) (x : AV) : Option AV :=
  match op, x with
  | .neg, .int k n => some (.int k (k.wrap (0 - n)))
  | .not, .bool b => some (.bool !b)
  | _, _ => none
def nilckAV (x : AV) : Option AV :=
  match x with
  | .ref .. | .lref .. | .eref _ | .fn (.func _) _ _ | .iface .. => some x
  | _ => none
def offAV (o : Nat) (x : AV) : Option AV :=
  match x with
  | .ref b i => some (.ref b (i + o))
  | .lref t i => some (.lref t (i + o))
  | .eref cs => if o ≤ cs.length then some (.eref (cs.drop o)) else none
  | _ => none
def iaddrAV (esz : Nat) (x : AV) (i : Int) : Option AV :=
  match x with
  | .row _ _ sz es => if sz = esz ∧ 0 ≤ i ∧ i < es.length then some (.eref (es.getD i.toNat .any).cells) else none
  | .arr b start len sz => if sz = esz ∧ 0 ≤ i ∧ i < len then some (.ref b ((start + i.toNat) * esz)) else none
  | _ => none
/-- A bound of a slice expression. -/
def AS.bd (st : AS) : Option Opd → Nat → Option Int
  | none, d => some d
  | some x, _ => (st.ev x).asI
def slRAV (esz : Nat) (x : AV) (lo : Int) (hi : Option Int) (mx : Option Int) : Option AV :=
  match x with
  | .row own full sz es =>
    let h := hi.getD es.length
    if sz = esz ∧ 0 ≤ lo ∧ lo ≤ h ∧ h ≤ es.length ∧ (∀ m, mx = some m → m = h) then
      some (.row (if h = es.length ∧ lo < h ∧ mx = none then own else none) (mx.isSome || (full && h == es.length)) esz ((es.take h.toNat).drop lo.toNat)) else none
  | .arr b start len sz =>
    let h := hi.getD len
    if sz = esz ∧ 0 ≤ lo ∧ lo ≤ h ∧ h ≤ len ∧ mx = none ∧ (lo < h ∨ lo = 0) then some (.arr b (start + lo.toNat) (h.toNat - lo.toNat) esz) else
    if sz = esz ∧ 0 ≤ lo ∧ lo = h ∧ h ≤ len ∧ mx = none then some (.row none false esz []) else none
  | .pl (.slice none 0 0) => if lo = 0 ∧ hi.getD 0 = 0 ∧ mx.getD 0 = 0 then some x else none
  | _ => none

def fillAV : List AV → List (Nat × Nat × AV) → Option (List AV)
  | cs, [] => some cs
  | cs, (o, n, x) :: r => match x.cells? with
    | some ns => if ns.length = n ∧ o + n ≤ cs.length then fillAV (over cs o ns) r else none
    | none => none
def PExp.ev (e : PExp) (st : AS) (H : AHeap) : Option AV :=
  match e with
  | .mov x => some (st.ev x)
  | .pick c a b => match st.ev c with
    | .bool true => some (st.ev a)
    | .bool false => some (st.ev b)
    | _ => none
  | .load n x => match n, st.cellsAt H (st.ev x) with
    | none, some (c :: _) => some c
    | some n, some cs => if n ≤ cs.length then some (.agg (cs.take n)) else none
    | _, _ => none
  | .nilck x => nilckAV (st.ev x)
  | .bin op x y => binAV op (st.ev x) (st.ev y)
  | .un op x => unAV op (st.ev x)
  | .i2i k x => match st.ev x with
    | .int _ n => some (.int k (k.wrap n))
    | _ => none
  | .off o x => offAV o (st.ev x)
  | .iaddr esz x i => match (st.ev i).asI with
    | some n => iaddrAV esz (st.ev x) n
    | none => none
  | .idxS x i => match st.ev x, (st.ev i).asI with
    | .str s, some n => if 0 ≤ n ∧ n < s.length then some (.int .u8 (s.getD n.toNat 0).toNat) else none
    | _, _ => none
  | .slS x lo hi => match st.ev x with
    | .str s => match st.bd lo 0, st.bd hi s.length with
      | some l, some h => if 0 ≤ l ∧ l ≤ h ∧ h ≤ s.length then some (.str ((s.take h.toNat).drop l.toNat)) else none
      | _, _ => none
    | _ => none
  | .slR esz x lo hi mx => match st.bd lo 0, (hi.map fun o => (st.ev o).asI), (mx.map fun o => (st.ev o).asI) with
    | some l, none, none => slRAV esz (st.ev x) l none none
    | some l, some (some h), none => slRAV esz (st.ev x) l (some h) none
    | some l, some (some h), some (some m) => slRAV esz (st.ev x) l (some h) (some m)
    | _, _, _ => none
  | .extr x i => match st.ev x with
    | .tup vs => vs[i]?
    | _ => none
  | .lenS x => match st.ev x with
    | .str s => some (.int .i64 s.length)
    | _ => none
  | .lenR x => match st.ev x with
    | .row _ _ _ es => some (.int .i64 es.length)
    | .arr _ _ n _ => some (.int .i64 n)
    | .pl (.slice none n _) => some (.int .i64 n)
    | _ => none
  | .mkfn f first captured => if (first.map st.ev).all AV.glob && (captured.map st.ev).all AV.glob then some (.fn f (first.map st.ev) (captured.map st.ev)) else none
  | .build zero parts => (fillAV zero (parts.map fun p => (p.1, p.2.1, st.ev p.2.2))).map .agg

section
variable {W0 : World} {G0 : Ghost} {w0 : World} {N : Nat} {G : Ghost} {L : Nat → Option Nat} {st : AS} {H : AHeap} {ca : Act} {w : World} {P : Program}

theorem getD_drop {α : Type} (l : List α) (o j : Nat) (d : α) : (l.drop o).getD j d = l.getD (o + j) d := by
  simp [List.getD_eq_getElem?_getD, List.getElem?_drop]
theorem getD_take {α : Type} (l : List α) (n j : Nat) (d : α) (h : j < n) : (l.take n).getD j d = l.getD j d := by
  simp [List.getD_eq_getElem?_getD, List.getElem?_take_of_lt h]

/-- Where cells are read. -/
theorem Rel.cellsAt (h : Rel W0 G0 w0 N G L st H ca w) {x : AV} {v : Value} {cs : List AV} (hv : SRel G L x v) (hc : st.cellsAt H x = some cs) :
    ∃ B o, v = .pointer (some ⟨B, o, none⟩) ∧ ∀ j, j < cs.length → ∃ u, w.cell? ⟨B, o + j, none⟩ = some u ∧ VRel G (cs.getD j .any) u := by
  cases x with
  | ref b off =>
    have := hv.rel (by simp)
    cases this with
    | ref _ _ B hB =>
      simp only [AS.cellsAt] at hc
      split at hc
      · rename_i l hl
        cases hc
        obtain ⟨B', vs, ty, fz, hB', hh, hs, hfz, hle, hcv⟩ := h.inv.obj b _ hl
        rw [hB] at hB'; cases hB'
        refine ⟨B, off, rfl, fun j hj => ?_⟩
        simp only [List.length_drop] at hj
        have hlt : off + j < l.length := by omega
        refine ⟨vs.toList.getD (off + j) undef, ?_, ?_⟩
        · simp only [World.cell?, hh]
          rw [List.getD_eq_getElem?_getD, List.getElem?_eq_getElem (by simp; omega)]
          simp
        · rw [getD_drop]
          exact (hcv (off + j) hlt).2
      · cases hc
  | lref t off =>
    rcases hv with ⟨t', off', B, e, hB, rfl⟩ | hv
    · cases e
      simp only [AS.cellsAt, Option.map_eq_some_iff] at hc
      obtain ⟨l, hl, rfl⟩ := hc
      obtain ⟨B', vs, ty, hB', _, _, hh, hr, _⟩ := h.locs t l hl
      rw [hB] at hB'; cases hB'
      refine ⟨B, off, rfl, fun j hj => ?_⟩
      simp only [List.length_drop] at hj
      have hlt : off + j < l.length := by omega
      refine ⟨vs.getD (off + j) undef, ?_, ?_⟩
      · simp only [World.cell?, hh]
        rw [List.getD_eq_getElem?_getD, List.getElem?_eq_getElem (by rw [hr.1]; omega)]
        simp
      · rw [getD_drop]; exact hr.2 _ hlt
    · cases hv
  | eref l =>
    have := hv.rel (by simp)
    cases this with
    | eref _ B o cv hm hcv =>
      simp only [AS.cellsAt] at hc
      cases hc
      exact ⟨B, o, rfl, fun j hj => ⟨cv j, (h.inv.imm _ _ _ (hm j hj)).2, hcv j hj⟩⟩
  | _ => simp [AS.cellsAt] at hc

theorem run_scalar_load {t : TypeId} {d : TypeDesc} {i : TypeInfo} (w : World) (B o : Nat) (u : Value) (hu : P.underlying t = some d) (hd : d.isRow = false) (hc : w.cell? ⟨B, o, none⟩ = some u) :
    (Instr.loadAt t (.pointer (some ⟨B, o, none⟩))).run P w = .ok u w := by
  have hagg : (isAgg t).run P w = .ok false w := by
    unfold isAgg
    rw [Sem.run_bind, run_underlying hu w]
    cases d <;> simp_all
  simp [Instr.loadAt, Instr.sureAddr, loadVar, hagg, hc]

theorem load_sound (h : Rel W0 G0 w0 N G L st H ca w) {t : TypeId} {d : TypeDesc} {i : TypeInfo} (hu : P.underlying t = some d) (hi : P.info? t = some i)
    {x : Operand} {y : Opd} (hx : cOpd N x = some y) {r : AV} (hr : (PExp.load (if d.isRow then some i.size else none) y).ev st H = some r) :
    ∃ v, (Instr.loadAt t (ca.eval x)).run P w = .ok v w ∧ VRel G r v := by
  have hv := h.opd hx
  simp only [PExp.ev] at hr
  cases hd : d.isRow with
  | false =>
    rw [hd] at hr
    simp at hr
    split at hr
    · rename_i c cs _ hcs
      cases hr
      obtain ⟨B, o, e, hc⟩ := h.cellsAt hv hcs
      obtain ⟨u, hu1, hu2⟩ := hc 0 (by simp)
      rw [e]
      exact ⟨u, run_scalar_load (i := i) w B o u hu hd (by simpa using hu1), by simpa using hu2⟩
    · rename_i q1 q2; simp at q1
    · cases hr
  | true =>
    rw [hd] at hr
    simp at hr
    split at hr
    · rename_i q1 q2; simp at q1
    · rename_i n cs q1 hcs
      cases q1
      split at hr
      · rename_i hn
        cases hr
        obtain ⟨B, o, e, hc⟩ := h.cellsAt hv hcs
        have : ∃ vs : List Value, vs.length = i.size ∧ ∀ j, j < i.size → w.cell? ⟨B, o + j, none⟩ = some (vs.getD j undef) ∧ VRel G (cs.getD j .any) (vs.getD j undef) := by
          have key : ∀ n, n ≤ i.size → ∃ vs : List Value, vs.length = n ∧ ∀ j, j < n → w.cell? ⟨B, o + j, none⟩ = some (vs.getD j undef) ∧ VRel G (cs.getD j .any) (vs.getD j undef) := by
            intro n
            induction n with
            | zero => intro _; exact ⟨[], rfl, fun j hj => by omega⟩
            | succ n ih =>
              intro hle
              obtain ⟨vs, hl, hvs⟩ := ih (by omega)
              obtain ⟨u, hu1, hu2⟩ := hc n (by omega)
              refine ⟨vs ++ [u], by simp [hl], fun j hj => ?_⟩
              by_cases e : j = n
              · subst e
                have e2 : (vs ++ [u]).getD j undef = u := by
                  rw [List.getD_eq_getElem?_getD, List.getElem?_append_right (by omega)]; simp [hl]
                rw [e2]
                exact ⟨hu1, hu2⟩
              · have e2 : (vs ++ [u]).getD j undef = vs.getD j undef := by
                  rw [List.getD_eq_getElem?_getD, List.getElem?_append_left (by omega), List.getD_eq_getElem?_getD]
                rw [e2]
                exact hvs j (by omega)
          exact key i.size (Nat.le_refl _)
        obtain ⟨vs, hl, hvs⟩ := this
        rw [e]
        refine ⟨.agg vs.toArray, run_loadAt_mid w B o t vs d (fun j v hj => ?_) hu hd (by rw [hi]; simp [hl]), .agg _ _ (by simp [hl]; omega) (fun j hj => ?_)⟩
        · have hlt : j < vs.length := (List.getElem?_eq_some_iff.1 hj).1
          have := (hvs j (by omega)).1
          rwa [List.getD_eq_getElem?_getD, hj] at this
        · simp at hj
          rw [getD_take _ _ _ _ (by omega)]
          exact (hvs j (by omega)).2
      · cases hr
    · cases hr
end
end Go.Qa
