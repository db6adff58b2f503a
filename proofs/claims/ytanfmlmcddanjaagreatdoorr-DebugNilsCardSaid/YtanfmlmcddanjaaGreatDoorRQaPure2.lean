/- The abstract machine, part 6: the operations that only compute: that the model's do so. -/
import Derived.Test.YtanfmlmcddanjaaGreatDoorRQaPure
set_option linter.all false
namespace Go.Qa
open Go Go.RowKit
section
variable {W0 : World} {G0 : Ghost} {w0 : World} {N : Nat} {G : Ghost} {L : Nat → Option Nat} {st : AS} {H : AHeap} {ca : Act} {w : World} {P : Program}

/-- The model's value for an abstract one, and that it is no reference to a block that isn't there. -/
def Gives (P : Program) (G : Ghost) (L : Nat → Option Nat) (st : AS) (w : World) (s : Sem Value) (r : AV) : Prop :=
  ∃ v, s.run P w = .ok v w ∧ SRel G L r v ∧ ∀ i off, r = .lref i off → st.loc i ≠ none
theorem Gives.rel {s : Sem Value} {r : AV} {v : Value} (h : s.run P w = .ok v w) (hr : VRel G r v) : Gives P G L st w s r :=
  ⟨v, h, .of hr, fun i off e => by subst e; cases hr⟩

theorem asI_of {x : AV} {v : Value} {n : Int} (h : SRel G L x v) (hn : x.asI = some n) : ∃ k, v = .int k n := by
  cases x <;> simp [AV.asI] at hn
  subst hn
  exact ⟨_, h.int⟩

theorem run_intBin {op : BinOp} {k : IntKind} {a b : Int} {r : AV} (w : World) (t : TypeId) (hr : binAV op (.int k a) (.int k b) = some r) : ∃ v, (binOp op t (.int k a) (.int k b)).run P w = .ok v w ∧ VRel G r v := by
  cases op <;> simp [binAV, intBin] at hr
  case quo =>
    obtain ⟨hb, rfl⟩ := hr
    exact ⟨_, by simp [binOp, Op.intDiv, hb], .int _ _⟩
  case rem =>
    obtain ⟨hb, rfl⟩ := hr
    exact ⟨_, by simp [binOp, Op.intDiv, hb], .int _ _⟩
  case shl =>
    obtain ⟨hb, rfl⟩ := hr
    exact ⟨_, by simp only [binOp, Op.shift]; rw [if_neg (by omega)]; rfl, .int _ _⟩
  case shr =>
    obtain ⟨hb, rfl⟩ := hr
    exact ⟨_, by simp only [binOp, Op.shift]; rw [if_neg (by omega)]; rfl, .int _ _⟩
  all_goals
    subst hr
    refine ⟨_, by simp [binOp, Op.intArith, Op.intBits, Op.intCmp]; rfl, ?_⟩
    constructor
theorem run_strBin {op : BinOp} {a b : List UInt8} {r : AV} (w : World) (t : TypeId) (hr : strBin op a b = some r) : ∃ v, (binOp op t (.string (bs a)) (.string (bs b))).run P w = .ok v w ∧ VRel G r v := by
  cases op <;> simp [strBin] at hr
  case add =>
    obtain ⟨hl, rfl⟩ := hr
    refine ⟨.string (bs (a ++ b)), ?_, .str _ (by simpa using hl)⟩
    have : ¬ ((((bs a).size + (bs b).size : Nat) : Int) > IntKind.i64.max) := by
      rw [bs_size, bs_size]
      have : IntKind.i64.max = 9223372036854775807 := by decide
      rw [this]; unfold maxLen at hl; omega
    simp only [binOp, Op.stringOp]
    rw [if_neg this, bs_append]; rfl
  all_goals
    subst hr
    refine ⟨_, by simp [binOp, Op.stringOp, bs_toList]; rfl, ?_⟩
    constructor

theorem run_eqGuard_int {op : BinOp} (t : TypeId) (x y : Operand) (k k' : IntKind) (a b : Int) (w : World) : (eqGuard op t x y (.int k a) (.int k' b)).run P w = .ok () w := by
  unfold eqGuard; cases op <;> simp
theorem run_eqGuard_str {op : BinOp} (t : TypeId) (x y : Operand) (a b : ByteArray) (w : World) : (eqGuard op t x y (.string a) (.string b)).run P w = .ok () w := by
  unfold eqGuard; cases op <;> simp
theorem run_shift_kinds {op : BinOp} {k k' : IntKind} {a b : Int} {r : AV} (w : World) (t : TypeId) (ho : op = .shl ∨ op = .shr) (hr : binAV op (.int k a) (.int k' b) = some r) : ∃ v, (binOp op t (.int k a) (.int k' b)).run P w = .ok v w ∧ VRel G r v := by
  rcases ho with rfl | rfl
  all_goals
    simp [binAV] at hr
    obtain ⟨hb, rfl⟩ := hr
    exact ⟨_, by simp only [binOp, Op.shift]; rw [if_neg (by omega)]; rfl, .int _ _⟩

theorem bin_sound (h : Rel W0 G0 w0 N G L st H ca w) {op : BinOp} {t : TypeId} {x y : Operand} {x' y' : Opd} (hx : cOpd N x = some x') (hy : cOpd N y = some y')
    {r : AV} (hr : (PExp.bin op x' y').ev st H = some r) : Gives P G L st w (do eqGuard op t x y (ca.eval x) (ca.eval y); binOp op t (ca.eval x) (ca.eval y)) r := by
  have h1 := h.opd hx
  have h2 := h.opd hy
  simp only [PExp.ev] at hr
  generalize st.ev x' = a at *
  generalize st.ev y' = b at *
  cases a <;> cases b <;> simp only [binAV] at hr <;> try (cases hr; done)
  · rename_i k n k' m
    rw [h1.int, h2.int]
    have key : ∃ v, (binOp op t (.int k n) (.int k' m)).run P w = .ok v w ∧ VRel G r v := by
      by_cases ho : op = .shl ∨ op = .shr
      · exact run_shift_kinds w t ho (by simpa only [binAV] using hr)
      · have hk : k = k' := by
          rcases op <;> simp at ho hr <;> first | exact hr.1 | skip
        subst hk
        exact run_intBin w t (by simpa only [binAV] using hr)
    obtain ⟨v, hv, hr⟩ := key
    refine .rel ?_ hr
    rw [Sem.run_bind, run_eqGuard_int, Result.andThen_ok, hv]
  · rename_i s u
    obtain ⟨e1, l1⟩ := h1.str
    obtain ⟨e2, l2⟩ := h2.str
    rw [e1, e2]
    obtain ⟨v, hv, hr⟩ := run_strBin (P := P) (G := G) w t hr
    refine .rel ?_ hr
    rw [Sem.run_bind, run_eqGuard_str, Result.andThen_ok, hv]

theorem un_sound (h : Rel W0 G0 w0 N G L st H ca w) {op : UnOp} {x : Operand} {x' : Opd} (hx : cOpd N x = some x') {r : AV} (hr : (PExp.un op x').ev st H = some r) :
    Gives P G L st w (Op.unary op (ca.eval x)) r := by
  have h1 := h.opd hx
  simp only [PExp.ev] at hr
  generalize st.ev x' = a at *
  cases op <;> cases a <;> simp [unAV] at hr
  · subst hr; rw [h1.int]; exact .rel (by simp [Op.unary, Op.intArith]) (.int _ _)
  · subst hr; rw [h1.bool]; exact .rel (by simp [Op.unary]) (.bool _)

theorem i2i_sound (h : Rel W0 G0 w0 N G L st H ca w) {s d : TypeId} {k j : IntKind} (hs : P.underlying s = some (.int j)) (hd : P.underlying d = some (.int k)) {x : Operand} {x' : Opd} (hx : cOpd N x = some x')
    {r : AV} (hr : (PExp.i2i k x').ev st H = some r) : Gives P G L st w (convert s d (ca.eval x)) r := by
  have h1 := h.opd hx
  simp only [PExp.ev] at hr
  split at hr
  · rename_i k' n e
    cases hr
    rw [e] at h1
    rw [h1.int]
    refine .rel ?_ (.int _ _)
    simp [convert, run_underlying hs, run_underlying hd, Conv.intToInt]
  · cases hr

theorem add_plain (B o n : Nat) : (⟨B, o, none⟩ : Addr).add n = ⟨B, o + n, none⟩ := Addr.add_mid B o n

theorem off_sound (h : Rel W0 G0 w0 N G L st H ca w) {s : TypeId} {fields : Array Field} {k : Nat} {f : Field} {i : TypeInfo} (hs : P.underlying s = some (.struct fields)) (hf : fields[k]? = some f)
    (hi : P.info? f.type = some i) (hz : i.size ≠ 0) {x : Operand} {x' : Opd} (hx : cOpd N x = some x') {r : AV} (hr : (PExp.off f.offset x').ev st H = some r) :
    Gives P G L st w (Instr.fieldAt s (ca.eval x) k) r := by
  have h1 := h.opd hx
  have hl : ∀ t o, st.ev x' = .lref t o → st.loc t ≠ none := fun t o e => h.opd_loc hx e
  simp only [PExp.ev] at hr
  generalize st.ev x' = a at *
  have run : ∀ B o, (Instr.fieldAt s (.pointer (some ⟨B, o, none⟩)) k).run P w = .ok (.pointer (some ⟨B, o + f.offset, none⟩)) w := fun B o => by
    simp [Instr.fieldAt, run_underlying hs, hf, Instr.sureAddr, fieldPlace, sizeOf, typeInfo, hi, hz, add_plain]
  generalize ca.eval x = vx at *
  cases a <;> simp [offAV] at hr
  · subst hr
    rename_i b o
    have := h1.rel (by simp)
    cases this with
    | ref _ _ B hB => exact .rel (run B o) (.ref _ _ _ hB)
  · obtain ⟨hle, rfl⟩ := hr
    have := h1.rel (by simp)
    cases this with
    | eref cs B o cv hm hv =>
      refine .rel (run B o) (.eref _ B (o + f.offset) (fun j => cv (f.offset + j)) (fun j hj => ?_) (fun j hj => ?_))
      · simp at hj
        rw [Nat.add_assoc]; exact hm _ (by omega)
      · simp at hj
        rw [getD_drop]; exact hv _ (by omega)
  · subst hr
    rename_i t o
    rcases h1 with ⟨t', o', B, e, hB, rfl⟩ | h1
    · cases e
      exact ⟨_, run B o, .inl ⟨t, o + f.offset, B, rfl, hB, rfl⟩, fun i off e => by cases e; exact hl t o rfl⟩
    · cases h1

theorem nilck_sound (h : Rel W0 G0 w0 N G L st H ca w) {x : Operand} {x' : Opd} (hx : cOpd N x = some x') {r : AV} (hr : (PExp.nilck x').ev st H = some r) (o : Oper) (ho : o.op = .nilCheck x) :
    ∃ v, (execOp ca.eval o).run P w = .ok (.value v) w ∧ SRel G L r v ∧ ∀ i off, r = .lref i off → st.loc i ≠ none := by
  have h1 := h.opd hx
  have hl : ∀ t o, st.ev x' = .lref t o → st.loc t ≠ none := fun t o e => h.opd_loc hx e
  simp only [PExp.ev] at hr
  generalize st.ev x' = a at *
  have hr2 : r = a := by
    cases a <;> simp [nilckAV] at hr <;> try exact hr.symm
    rename_i f _ _
    cases f <;> simp at hr
    exact hr.symm
  subst hr2
  refine ⟨ca.eval x, ?_, h1, fun i off e => hl i off e⟩
  simp only [execOp, ho]
  generalize ca.eval x = v at *
  cases r <;> simp [nilckAV] at hr
  · have := h1.rel (by simp)
    cases this; rfl
  · have := h1.rel (by simp)
    cases this; rfl
  · rcases h1 with ⟨_, _, B, _, _, rfl⟩ | h1
    · rfl
    · cases h1
  · rename_i f a b
    have := h1.rel (by simp)
    cases this
    cases f <;> simp at hr
    rfl
  · have := h1.rel (by simp)
    cases this; rfl

theorem iaddr_sound (h : Rel W0 G0 w0 N G L st H ca w) {t e : TypeId} {i : TypeInfo} (ht : P.underlying t = some (.slice e)) (hi : P.info? e = some i) {x y : Operand} {x' y' : Opd} (hx : cOpd N x = some x') (hy : cOpd N y = some y')
    {r : AV} (hr : (PExp.iaddr i.size x' y').ev st H = some r) : Gives P G L st w (Instr.indexAt t (ca.eval x) (ca.eval y)) r := by
  have h1 := h.opd hx
  have h2 := h.opd hy
  simp only [PExp.ev] at hr
  split at hr
  · rename_i n hn
    obtain ⟨k, e2⟩ := asI_of h2 hn
    rw [e2]
    clear e2 h2 hn
    generalize ca.eval x = vx at *
    generalize st.ev x' = a at *
    have run : ∀ (ad : Addr) (len cap : Nat), 0 ≤ n → n < len → (Instr.indexAt t (.slice (some ad) len cap) (.int k n)).run P w = .ok (.pointer (some (ad.add (n.toNat * i.size)))) w := fun ad len cap h0 hl => by
      simp [Instr.indexAt, asIntOf, run_underlying ht, h0, hl, sizeOf, typeInfo, hi]
    cases a <;> simp [iaddrAV] at hr
    · obtain ⟨⟨rfl, h0, hlt⟩, rfl⟩ := hr
      have := h1.rel (by simp)
      rename_i own full sz es
      cases this with
      | row _ _ _ _ ad cap cv hs he hm hv hc hx hf ho =>
        have hsp := hs (by omega)
        have hnl : n.toNat < es.length := by omega
        obtain ⟨cs, hcs, hcl⟩ := he n.toNat hnl
        refine .rel (run ad _ cap h0 hlt) ?_
        have e3 : ad = ⟨ad.block, ad.off, none⟩ := by cases ad; simp_all
        have ecs : (es.getD n.toNat AV.any).cells = cs := by simp only [AV.cells, hcs]; rfl
        rw [e3, add_plain, show (es[n.toNat]?.getD AV.any) = es.getD n.toNat AV.any by rw [List.getD_eq_getElem?_getD], ecs]
        refine .eref _ ad.block _ (cv n.toNat) (fun j hj => ?_) (fun j hj => ?_)
        · rw [Nat.add_assoc]; exact hm _ _ hnl (by omega)
        · have := hv n.toNat j hnl (by omega)
          rwa [ecs] at this
    · obtain ⟨⟨rfl, h0, hlt⟩, rfl⟩ := hr
      have := h1.rel (by simp)
      cases this with
      | arr b start len esz B cap sz hb hc hx hs hz =>
        refine .rel (run _ _ cap h0 hlt) ?_
        rw [add_plain, ← Nat.add_mul]
        exact .ref _ _ _ hb
  · cases hr

theorem idxS_sound (h : Rel W0 G0 w0 N G L st H ca w) {t : TypeId} (ht : P.underlying t = some .string) {x y : Operand} {x' y' : Opd} (hx : cOpd N x = some x') (hy : cOpd N y = some y')
    {r : AV} (hr : (PExp.idxS x' y').ev st H = some r) : Gives P G L st w (Instr.index t (ca.eval x) (ca.eval y)) r := by
  have h1 := h.opd hx
  have h2 := h.opd hy
  simp only [PExp.ev] at hr
  split at hr
  · rename_i s n es hn
    obtain ⟨k, e2⟩ := asI_of h2 hn
    rw [es] at h1
    obtain ⟨e1, hl⟩ := h1.str
    rw [e1, e2]
    split at hr
    · rename_i hb
      cases hr
      refine .rel (v := .int .u8 (s.getD n.toNat 0).toNat) ?_ (.int _ _)
      have hlt : n.toNat < s.length := by omega
      simp only [Instr.index, asIntOf, Sem.run_bind, Sem.run_pure, Result.andThen_ok, run_underlying ht, if_pos hb.1, bs_get, List.getElem?_eq_getElem hlt, List.getD_eq_getElem?_getD]
      rfl
    · cases hr
  · cases hr

theorem extr_sound (h : Rel W0 G0 w0 N G L st H ca w) {x : Operand} {x' : Opd} (hx : cOpd N x = some x') {i : Nat}
    {r : AV} (hr : (PExp.extr x' i).ev st H = some r) : Gives P G L st w (Instr.extract (ca.eval x) i) r := by
  have h1 := h.opd hx
  generalize ca.eval x = vx at *
  simp only [PExp.ev] at hr
  split at hr
  · rename_i vs e
    rw [e] at h1
    have := h1.rel (by simp)
    cases this with
    | tup _ us hl hh =>
      have hlt : i < vs.length := (List.getElem?_eq_some_iff.1 hr).1
      have hr2 := hh i hlt
      rw [List.getD_eq_getElem?_getD, hr] at hr2
      refine .rel (v := us.getD i undef) ?_ hr2
      simp only [Instr.extract, List.getElem?_toArray]
      rw [List.getElem?_eq_getElem (by omega), List.getD_eq_getElem?_getD, List.getElem?_eq_getElem (by omega)]
      rfl
  · cases hr

theorem lenS_sound (h : Rel W0 G0 w0 N G L st H ca w) {t : TypeId} (ht : P.underlying t = some .string) {x : Operand} {x' : Opd} (hx : cOpd N x = some x') {ty : TypeId}
    {r : AV} (hr : (PExp.lenS x').ev st H = some r) : Gives P G L st w (Builtin.len_ #[t] ty #[ca.eval x]) r := by
  have h1 := h.opd hx
  generalize ca.eval x = vx at *
  simp only [PExp.ev] at hr
  split at hr
  · rename_i s e
    rw [e] at h1
    obtain ⟨e1, _⟩ := h1.str
    cases hr
    rw [e1]
    refine .rel ?_ (.int _ _)
    simp [Builtin.len_, run_underlying ht, bs_size, goInt]
  · cases hr
theorem lenR_sound (h : Rel W0 G0 w0 N G L st H ca w) {t e : TypeId} (ht : P.underlying t = some (.slice e)) {x : Operand} {x' : Opd} (hx : cOpd N x = some x') {ty : TypeId}
    {r : AV} (hr : (PExp.lenR x').ev st H = some r) : Gives P G L st w (Builtin.len_ #[t] ty #[ca.eval x]) r := by
  have h1 := h.opd hx
  generalize ca.eval x = vx at *
  simp only [PExp.ev] at hr
  have run : ∀ (ad : Option Addr) (n cap : Nat), (Builtin.len_ #[t] ty #[.slice ad n cap]).run P w = .ok (.int .i64 n) w := fun ad n cap => by
    simp [Builtin.len_, run_underlying ht, goInt]
  split at hr
  · rename_i e
    rw [e] at h1
    cases hr
    have := h1.rel (by simp)
    cases this
    exact .rel (run _ _ _) (.int _ _)
  · rename_i e
    rw [e] at h1
    cases hr
    have := h1.rel (by simp)
    cases this
    exact .rel (run _ _ _) (.int _ _)
  · rename_i e
    rw [e] at h1
    cases hr
    rw [h1.pl]
    exact .rel (run _ _ _) (.int _ _)
  · cases hr

/-- What the bound of a slice expression gives. -/
theorem run_sliceBound {k : IntKind} {i y : Nat} (code : BoundsCode) (h : i ≤ y) (w : World) : (Instr.sliceBound (.int k (i : Int)) y code).run P w = .ok i w := by
  simp only [Instr.sliceBound, asIntOf, Sem.run_bind, Sem.run_pure, Result.andThen_ok]
  rw [if_pos ⟨by omega, by omega⟩]; simp
theorem run_sliceBounds (isSl : Bool) (len cap : Nat) (low high max : Option Value) (l h m : Nat) (hl : (low = none ∧ l = 0) ∨ ∃ k, low = some (.int k (l : Int))) (hh : (high = none ∧ h = len) ∨ ∃ k, high = some (.int k (h : Int)))
    (hm : (max = none ∧ m = cap) ∨ ((∃ k, max = some (.int k (m : Int))) ∧ high ≠ none)) (h1 : l ≤ h) (h2 : h ≤ m) (h3 : m ≤ cap) (w : World) :
    (Instr.sliceBounds isSl len cap low high max).run P w = .ok (l, h, m) w := by
  rcases hm with ⟨rfl, rfl⟩ | ⟨⟨k, rfl⟩, hn⟩ <;> rcases hh with ⟨rfl, rfl⟩ | ⟨k2, rfl⟩ <;> rcases hl with ⟨rfl, rfl⟩ | ⟨k3, rfl⟩ <;> first
    | exact absurd rfl hn
    | (unfold Instr.sliceBounds; simp [run_sliceBound, h1, h2, h3])
/-- The bounds, as operands. -/
def bdsOk (N : Nat) (x : Option Operand) (x' : Option Opd) : Prop := (x = none ∧ x' = none) ∨ ∃ o o', x = some o ∧ x' = some o' ∧ cOpd N o = some o'
theorem bd_rel (h : Rel W0 G0 w0 N G L st H ca w) {x : Option Operand} {x' : Option Opd} (hx : bdsOk N x x') {d : Nat} {n : Int} (hn : st.bd x' d = some n) (h0 : 0 ≤ n) :
    (x.map ca.eval = none ∧ n.toNat = d) ∨ ∃ k, x.map ca.eval = some (.int k (n.toNat : Int)) := by
  rcases hx with ⟨rfl, rfl⟩ | ⟨o, o', rfl, rfl, ho⟩
  · simp only [AS.bd] at hn; cases hn; exact .inl ⟨rfl, by simp⟩
  · simp only [AS.bd] at hn
    obtain ⟨k, e⟩ := asI_of (h.opd ho) hn
    exact .inr ⟨k, by simp [e, Int.toNat_of_nonneg h0]⟩

theorem slS_sound (h : Rel W0 G0 w0 N G L st H ca w) {t : TypeId} (ht : P.underlying t = some .string) {x : Operand} {x' : Opd} (hx : cOpd N x = some x') {lo hi : Option Operand} {lo' hi' : Option Opd}
    (hlo : bdsOk N lo lo') (hhi : bdsOk N hi hi') {r : AV} (hr : (PExp.slS x' lo' hi').ev st H = some r) : Gives P G L st w (Instr.sliceAt t (ca.eval x) (lo.map ca.eval) (hi.map ca.eval) none) r := by
  have h1 := h.opd hx
  generalize ca.eval x = vx at *
  simp only [PExp.ev] at hr
  split at hr
  · rename_i s e
    rw [e] at h1
    obtain ⟨e1, hl⟩ := h1.str
    rw [e1]
    split at hr
    · rename_i l k hbl hbh
      split at hr
      · rename_i hb
        cases hr
        have key := run_sliceBounds (P := P) false s.length s.length (lo.map ca.eval) (hi.map ca.eval) none l.toNat k.toNat s.length (bd_rel h hlo hbl hb.1) (bd_rel h hhi hbh (by omega)) (.inl ⟨rfl, rfl⟩) (by omega) (by omega) (Nat.le_refl _) w
        refine .rel (v := .string (bs ((s.take k.toNat).drop l.toNat))) ?_ (.str _ (by simp; omega))
        simp only [Instr.sliceAt, Instr.slice, Sem.run_bind, run_underlying ht, Result.andThen_ok, Option.isSome_none, Bool.false_eq_true, if_false, Sem.run_pure, bs_size, key, bs_extract]
      · cases hr
    · cases hr
  · cases hr

/-- A part of a row. -/
theorem row_part {own : Option (Nat × Nat)} {full : Bool} {esz : Nat} {es : List AV} {ad : Addr} {cap : Nat} (hv : VRel G (.row own full esz es) (.slice (some ad) es.length cap)) (l h m : Nat) (h1 : l ≤ h) (h2 : h ≤ es.length) (hm : m ≤ cap) (h3 : h ≤ m)
    (own' : Option (Nat × Nat)) (full' : Bool) (ho' : own' = none ∨ (own' = own ∧ h = es.length ∧ l < h ∧ m = cap)) (hf' : full' = true → m = h) :
    VRel G (.row own' full' esz ((es.take h).drop l)) (.slice (some (if m = l then ad else ad.add (l * esz))) (h - l) (m - l)) := by
  cases hv with
  | row _ _ _ _ _ _ cv hs he hmm hvv hc hx hf ho =>
    have hlen : ((es.take h).drop l).length = h - l := by simp; omega
    have hget : ∀ i, i < h - l → ((es.take h).drop l).getD i .any = es.getD (l + i) .any := fun i hi => by
      rw [getD_drop, getD_take _ _ _ _ (by omega)]
    rw [← hlen]
    have haddr : l < h → ad = ⟨ad.block, ad.off, none⟩ ∧ (if m = l then ad else ad.add (l * esz)) = ⟨ad.block, ad.off + l * esz, none⟩ := fun hlt => by
      have hsp := hs (by omega)
      have e3 : ad = ⟨ad.block, ad.off, none⟩ := by cases ad; simp_all
      refine ⟨e3, ?_⟩
      rw [if_neg (by omega), e3, add_plain]
    refine .row own' full' esz _ _ _ (fun i j => cv (l + i) j) (fun hp => ?_) (fun i hi => ?_) (fun i j hi hj => ?_) (fun i j hi hj => ?_) (by omega) (by omega) (fun q => by have := hf' q; omega) (fun t n q => ?_)
    · rw [(haddr (by omega)).2]
    · rw [hget i (by omega)]; exact he _ (by omega)
    · rw [(haddr (by omega)).2]
      have := hmm (l + i) j (by omega) hj
      simp only
      rw [show ad.off + l * esz + (i * esz + j) = ad.off + ((l + i) * esz + j) by rw [Nat.add_mul]; omega]
      exact this
    · rw [hget i (by omega)]; exact hvv _ _ (by omega) hj
    · rcases ho' with rfl | ⟨rfl, q1, q2, q3⟩
      · cases q
      · obtain ⟨a1, a2, sz, a3, a4⟩ := ho t n q
        rw [(haddr q2).2]
        have em : (h - l) * esz + l * esz = es.length * esz := by rw [← Nat.add_mul]; congr 1; omega
        have em2 : (m - l) * esz + l * esz = cap * esz := by rw [← Nat.add_mul]; congr 1; omega
        refine ⟨rfl, ?_, sz, a3, ?_⟩
        · rw [a2, hlen]
          simp only [Option.some.injEq, Prod.mk.injEq, true_and]
          omega
        · simp only; omega

theorem slR_sound (h : Rel W0 G0 w0 N G L st H ca w) {t e : TypeId} {i : TypeInfo} (ht : P.underlying t = some (.slice e)) (hi0 : P.info? e = some i) {x : Operand} {x' : Opd} (hx : cOpd N x = some x') {lo hi mx : Option Operand} {lo' hi' mx' : Option Opd}
    (hlo : bdsOk N lo lo') (hhi : bdsOk N hi hi') (hmx : bdsOk N mx mx') {r : AV} (hr : (PExp.slR i.size x' lo' hi' mx').ev st H = some r) :
    Gives P G L st w (Instr.sliceAt t (ca.eval x) (lo.map ca.eval) (hi.map ca.eval) (mx.map ca.eval)) r := by
  have h1 := h.opd hx
  have hrun : ∀ (ad : Option Addr) (len cap l k m : Nat), (Instr.sliceBounds true len cap (lo.map ca.eval) (hi.map ca.eval) (mx.map ca.eval)).run P w = .ok (l, k, m) w →
      (Instr.sliceAt t (.slice ad len cap) (lo.map ca.eval) (hi.map ca.eval) (mx.map ca.eval)).run P w = .ok (.slice (if m = l then ad else ad.map (·.add (l * i.size))) (k - l) (m - l)) w := fun ad len cap l k m q => by
    simp [Instr.sliceAt, Instr.slice, run_underlying ht, q, sizeOf, typeInfo, hi0]
  generalize ca.eval x = vx at *
  -- the bounds
  have bounds : ∃ (l : Int) (oh om : Option Int), st.bd lo' 0 = some l ∧ slRAV i.size (st.ev x') l oh om = some r ∧ (∀ d : Nat, st.bd hi' d = some (oh.getD d)) ∧ (oh = none → hi' = none) ∧
      (∀ d : Nat, st.bd mx' d = some (om.getD d)) ∧ (om = none → mx' = none) ∧ (om ≠ none → oh ≠ none) := by
    simp only [PExp.ev] at hr
    split at hr
    · rename_i l e1 e2 e3
      simp at e2 e3
      subst e2 e3
      exact ⟨l, none, none, e1, hr, fun d => rfl, fun _ => rfl, fun d => rfl, fun _ => rfl, fun q => absurd rfl q⟩
    · rename_i l k e1 e2 e3
      simp at e3
      subst e3
      obtain ⟨o, rfl, f2⟩ := Option.map_eq_some_iff.1 e2
      exact ⟨l, some k, none, e1, hr, fun d => f2, (fun q => by cases q), fun d => rfl, fun _ => rfl, fun q => absurd rfl q⟩
    · rename_i l k m e1 e2 e3
      obtain ⟨o, rfl, f2⟩ := Option.map_eq_some_iff.1 e2
      obtain ⟨o3, rfl, f3⟩ := Option.map_eq_some_iff.1 e3
      exact ⟨l, some k, some m, e1, hr, fun d => f2, (fun q => by cases q), fun d => f3, (fun q => by cases q), (fun _ q => by cases q)⟩
    · cases hr
  clear hr
  obtain ⟨l, oh, om, bl, hr, bh, bh0, bm, bm0, hom⟩ := bounds
  have himap : ∀ (len : Nat), 0 ≤ oh.getD len → (hi.map ca.eval = none ∧ (oh.getD len).toNat = len) ∨ ∃ k, hi.map ca.eval = some (.int k ((oh.getD len).toNat : Int)) := fun len q => bd_rel h hhi (bh len) q
  have mxmap : ∀ (cap m : Nat), (om = none ∧ m = cap) ∨ om = some (m : Int) → (mx.map ca.eval = none ∧ m = cap) ∨ ((∃ k, mx.map ca.eval = some (.int k (m : Int))) ∧ hi.map ca.eval ≠ none) := fun cap m q => by
    rcases q with ⟨q, rfl⟩ | q
    · left
      have := bm0 q
      rcases hmx with ⟨rfl, _⟩ | ⟨o, o', _, e, _⟩
      · exact ⟨rfl, rfl⟩
      · rw [this] at e; cases e
    · right
      have b := bd_rel h hmx (bm 0) (by rw [q]; simp)
      rw [q] at b
      have hmx' : mx' ≠ none := by
        intro z
        have := bm 5
        have := bm 6
        rw [q] at *
        simp [z, AS.bd] at *
        omega
      have hmx0 : mx.map ca.eval ≠ none := by
        rcases hmx with ⟨_, z⟩ | ⟨o, o', rfl, _, _⟩
        · exact absurd z hmx'
        · simp
      refine ⟨?_, ?_⟩
      · rcases b with ⟨b, _⟩ | ⟨k, b⟩
        · exact absurd b hmx0
        · exact ⟨k, by simpa using b⟩
      · have ho := hom (by rw [q]; simp)
        rcases hhi with ⟨_, z⟩ | ⟨o, o', rfl, _, _⟩
        · exfalso
          obtain ⟨k, rfl⟩ := Option.ne_none_iff_exists'.1 ho
          have b1 := bh 5
          have b2 := bh 6
          simp [z, AS.bd] at b1 b2
          omega
        · simp
  generalize hax : st.ev x' = a at *
  cases a <;> simp only [slRAV] at hr <;> try (cases hr; done)
  · rename_i u
    split at hr
    · rename_i e0; cases e0
    · rename_i e0; cases e0
    · rename_i e0
      cases e0
      split at hr
      · rename_i hb
        cases hr
        rw [h1.pl]
        have key := run_sliceBounds (P := P) true 0 0 (lo.map ca.eval) (hi.map ca.eval) (mx.map ca.eval) 0 0 0
          (by have := bd_rel h hlo bl (by omega); rw [hb.1] at this; simpa using this)
          (by have := himap 0 (by have := hb.2.1; simpa [this] using (by omega : (0:Int) ≤ oh.getD 0)); rw [show oh.getD ((0 : Nat) : Int) = oh.getD 0 from rfl, hb.2.1] at this; simpa using this)
          (mxmap 0 0 (by
            rcases om with _ | m
            · exact .inl ⟨rfl, rfl⟩
            · right; have := hb.2.2; simp at this; simp [this])) (Nat.le_refl _) (Nat.le_refl _) (Nat.le_refl _) w
        exact .rel (hrun _ _ _ _ _ _ key) (.pl _)
      · cases hr
    · cases hr
  · rename_i own full sz es
    split at hr
    · rename_i hb
      obtain ⟨rfl, hl0, hlh, hhe, hmm⟩ := hb
      cases hr
      have hrel := h1.rel (by simp)
      obtain ⟨ad, cap, e1⟩ : ∃ ad cap, vx = .slice (some ad) es.length cap := by cases hrel; exact ⟨_, _, rfl⟩
      subst e1
      have hcap : es.length ≤ cap ∧ (full = true → cap = es.length) := by cases hrel; exact ⟨by assumption, by assumption⟩
      generalize hk : oh.getD (es.length : Int) = k at *
      rcases om with _ | m
      · have key := run_sliceBounds (P := P) true es.length cap (lo.map ca.eval) (hi.map ca.eval) (mx.map ca.eval) l.toNat k.toNat cap (bd_rel h hlo bl hl0) (by have := himap es.length (by rw [hk]; omega); rwa [hk] at this) (mxmap cap cap (.inl ⟨rfl, rfl⟩)) (by omega) (by omega) (Nat.le_refl _) w
        refine .rel (hrun _ _ _ _ _ _ key) ?_
        have := row_part hrel l.toNat k.toNat cap (by omega) (by omega) (Nat.le_refl _) (by omega) (if k = es.length ∧ l < k ∧ (none : Option Int) = none then own else none) (full && k == es.length)
          (by by_cases q : k = es.length ∧ l < k ∧ (none : Option Int) = none
              · rw [if_pos q]; exact .inr ⟨rfl, by omega, by omega, rfl⟩
              · rw [if_neg q]; exact .inl rfl) (fun q => by simp at q; have := hcap.2 q.1; omega)
        simpa [apply_ite] using this
      · have hm := hmm m rfl
        subst hm
        have key := run_sliceBounds (P := P) true es.length cap (lo.map ca.eval) (hi.map ca.eval) (mx.map ca.eval) l.toNat m.toNat m.toNat (bd_rel h hlo bl hl0) (by have := himap es.length (by rw [hk]; omega); rwa [hk] at this) (mxmap cap m.toNat (.inr (by simp; omega))) (by omega) (by omega) (by omega) w
        refine .rel (hrun _ _ _ _ _ _ key) ?_
        have := row_part hrel l.toNat m.toNat m.toNat (by omega) (by omega) (by omega) (by omega) none true (.inl rfl) (fun _ => rfl)
        simpa [apply_ite] using this
    · cases hr
  · rename_i b start len sz
    have hrel := h1.rel (by simp)
    cases hrel with
    | arr _ _ _ _ B cap z hb hc hx hs hz =>
      generalize hk : oh.getD (len : Int) = k at *
      split at hr
      · rename_i hq
        obtain ⟨rfl, hl0, hlh, hke, rfl, hor⟩ := hq
        cases hr
        have key := run_sliceBounds (P := P) true len cap (lo.map ca.eval) (hi.map ca.eval) (mx.map ca.eval) l.toNat k.toNat cap (bd_rel h hlo bl hl0) (by have := himap len (by rw [hk]; omega); rwa [hk] at this) (mxmap cap cap (.inl ⟨rfl, rfl⟩)) (by omega) (by omega) (Nat.le_refl _) w
        refine .rel (hrun _ _ _ _ _ _ key) ?_
        have e4 : (if cap = l.toNat then some (⟨B, start * i.size, none⟩ : Addr) else (some (⟨B, start * i.size, none⟩ : Addr)).map (·.add (l.toNat * i.size))) = some ⟨B, (start + l.toNat) * i.size, none⟩ := by
          split
          · rename_i q
            have : l.toNat = 0 := by omega
            rw [this]; simp
          · simp [add_plain, Nat.add_mul]
        rw [e4]
        refine .arr b _ _ _ B _ z hb (by omega) (by omega) hs ?_
        have : (start + l.toNat + (cap - l.toNat)) = start + cap := by omega
        rw [this]; exact hz
      · split at hr
        · rename_i hq
          obtain ⟨rfl, hl0, hlh, hke, rfl⟩ := hq
          cases hr
          have key := run_sliceBounds (P := P) true len cap (lo.map ca.eval) (hi.map ca.eval) (mx.map ca.eval) l.toNat k.toNat cap (bd_rel h hlo bl hl0) (by have := himap len (by rw [hk]; omega); rwa [hk] at this) (mxmap cap cap (.inl ⟨rfl, rfl⟩)) (by omega) (by omega) (Nat.le_refl _) w
          have e5 : ∃ ad, (if cap = l.toNat then some (⟨B, start * i.size, none⟩ : Addr) else (some (⟨B, start * i.size, none⟩ : Addr)).map (·.add (l.toNat * i.size))) = some ad := by split <;> exact ⟨_, rfl⟩
          obtain ⟨ad, e5⟩ := e5
          refine .rel (hrun _ _ _ _ _ _ key) ?_
          rw [e5, show k.toNat - l.toNat = ([] : List AV).length by simp; omega]
          exact .row none false i.size [] ad _ (fun _ _ => undef) (by simp) (by simp) (by simp) (by simp) (by simp) (by omega) (by simp) (by simp)
        · cases hr

theorem fn_rels (h : Rel W0 G0 w0 N G L st H ca w) : ∀ {xs : List Operand} {ys : List Opd}, xs.mapM (cOpd N) = some ys → (∀ y ∈ ys, ∀ t o, st.ev y ≠ .lref t o) → VRels G (ys.map st.ev) (xs.map ca.eval)
  | [], ys, e, _ => by simp at e; subst e; exact .nil G
  | x :: xs, ys, e, hl => by
    simp only [List.mapM_cons, Option.bind_eq_bind, Option.bind_eq_some_iff, Option.pure_def, Option.some.injEq] at e
    obtain ⟨y, hy, zs, hz, rfl⟩ := e
    exact .cons ((h.opd hy).rel (hl y (by simp))) (fn_rels h hz (fun q hq => hl q (by simp [hq])))
theorem VRels.append {cs ds : List AV} {vs us : List Value} (h : VRels G cs vs) (k : VRels G ds us) : VRels G (cs ++ ds) (vs ++ us) := by
  induction cs generalizing vs with
  | nil => rw [h.eq_nil]; exact k
  | cons c cs ih =>
    obtain ⟨v, vs', rfl, h1, h2⟩ := h.head
    exact .cons h1 (ih h2)

theorem opds_rel (h : Rel W0 G0 w0 N G L st H ca w) {xs : List Operand} {ys : List Opd} (e : xs.mapM (cOpd N) = some ys) (hl : (ys.map st.ev).all AV.glob = true) : VRels G (ys.map st.ev) (xs.map ca.eval) := by
  refine fn_rels h e (fun y hy t off q => ?_)
  have := List.all_eq_true.1 hl (st.ev y) (List.mem_map_of_mem hy)
  rw [q] at this; cases this


theorem mkfn_sound (h : Rel W0 G0 w0 N G L st H ca w) {f : Fn} {xs ys : List Operand} {xs' ys' : List Opd} (hx : xs.mapM (cOpd N) = some xs') (hy : ys.mapM (cOpd N) = some ys')
    {r : AV} (hr : (PExp.mkfn f xs' ys').ev st H = some r) : Gives P G L st w (Instr.makeFunc f (xs.toArray.map ca.eval) (ys.toArray.map ca.eval)) r := by
  simp only [PExp.ev] at hr
  split at hr
  · rename_i hg
    rw [Bool.and_eq_true] at hg
    cases hr
    have h1 := opds_rel h hx hg.1
    have h2 := opds_rel h hy hg.2
    refine .rel (v := .func f (xs.map ca.eval).toArray (ys.map ca.eval).toArray) (by simp [Instr.makeFunc]) (.fn _ _ _ _ _ h1.1 h2.1 h1.2 h2.2)
  · cases hr

theorem fill_fold (c : List Value) (o : Nat) : ∀ (vs : List Value) (k : Nat) (cs : List Value), o + k + vs.length ≤ cs.length →
    (vs.zipIdx k).foldl (fun (cs : Array Value) (p : Value × Nat) => cs.setIfInBounds (o + p.2) p.1) cs.toArray = (over cs (o + k) vs).toArray
  | [], k, cs, _ => by simp [over_nil]
  | v :: vs, k, cs, h => by
    simp only [List.length_cons] at h
    rw [List.zipIdx_cons, List.foldl_cons]
    have e : cs.toArray.setIfInBounds (o + k) v = (cs.set (o + k) v).toArray := by simp
    simp only [e]
    rw [fill_fold c o vs (k + 1) (cs.set (o + k) v) (by simp; omega), over_cons (by omega)]
    rfl
theorem fill_step {place : Nat → Option (Nat × Nat)} {cells : Array Value} {i o n : Nat} {v : Value} {rest : List (Nat × Value)} (hp : place i = some (o, n)) (hn : v.cells.toList.length = n) (hl : o + n ≤ cells.toList.length) :
    Instr.fill place cells ((i, v) :: rest) = Instr.fill place (over cells.toList o v.cells.toList).toArray rest := by
  have h1 : ¬ (v.cells.size ≠ n ∨ o + v.cells.size > cells.size) := by
    have := Array.length_toList (xs := v.cells)
    have := Array.length_toList (xs := cells)
    omega
  simp only [Instr.fill, hp]
  rw [if_neg (by simpa using h1)]
  congr 1
  have e : v.cells.zipIdx = (v.cells.toList.zipIdx 0).toArray := by
    apply Array.ext'
    simp
  rw [e, List.foldl_toArray']
  · have := fill_fold [] o v.cells.toList 0 cells.toList (by omega)
    simpa using this
  · simp

theorem over_rels {cs ns : List AV} {vs us : List Value} (h : VRels G cs vs) (k : VRels G ns us) (o : Nat) (hl : o + ns.length ≤ cs.length) : VRels G (over cs o ns) (over vs o us) := by
  refine ⟨by rw [over_length hl, over_length (by rw [h.1, k.1]; exact hl), h.1], fun j hj => ?_⟩
  rw [over_length hl] at hj
  rw [over_getD hl, over_getD (by rw [h.1, k.1]; exact hl), k.1]
  split
  · exact k.2 _ (by omega)
  · exact h.2 j hj

theorem fillAV_sound (place : Nat → Option (Nat × Nat)) : ∀ (ps : List (Nat × Nat × Nat)) (xs : List AV) (vs : List Value) {cs cs' : List AV} {us : List Value}, (∀ p ∈ ps, place p.1 = some p.2) → ps.length = xs.length → VRels G cs us →
    (∀ i x, xs[i]? = some x → (x.cells? ≠ none → VRel G x (vs.getD i undef))) → vs.length = xs.length → fillAV cs ((ps.zip xs).map fun p => (p.1.2.1, p.1.2.2, p.2)) = some cs' →
    ∃ us', Instr.fill place us.toArray ((ps.zip vs).map fun p => (p.1.1, p.2)) = some us'.toArray ∧ VRels G cs' us'
  | [], xs, vs, cs, cs', us, hp, hl, hr, hx, hv, hf => by
    simp [fillAV] at hf
    subst hf
    exact ⟨us, by simp [Instr.fill], hr⟩
  | p :: ps, [], vs, cs, cs', us, hp, hl, hr, hx, hv, hf => by simp at hl
  | p :: ps, x :: xs, [], cs, cs', us, hp, hl, hr, hx, hv, hf => by simp at hv
  | p :: ps, x :: xs, v :: vs, cs, cs', us, hp, hl, hr, hx, hv, hf => by
    simp only [List.zip_cons_cons, List.map_cons, fillAV] at hf
    split at hf
    · rename_i ns hns
      split at hf
      · rename_i hb
        have hxv := hx 0 x rfl (by rw [hns]; simp)
        simp at hxv
        obtain ⟨hc, _⟩ := hxv.cells hns
        have key := fillAV_sound place ps xs vs (fun q hq => hp q (by simp [hq])) (by simpa using hl) (over_rels hr hc p.2.1 (by omega)) (fun i y hy => by simpa using hx (i + 1) y (by simpa using hy)) (by simpa using hv) hf
        obtain ⟨us', h1, h2⟩ := key
        refine ⟨us', ?_, h2⟩
        simp only [List.zip_cons_cons, List.map_cons]
        rw [fill_step (hp p (by simp)) (by rw [hc.1]; exact hb.1) (by simp [hr.1]; exact hb.2)]
        simpa using h1
      · cases hf
    · cases hf
end
end Go.Qa
