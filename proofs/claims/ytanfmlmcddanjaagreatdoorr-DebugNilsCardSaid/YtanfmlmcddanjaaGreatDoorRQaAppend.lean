/- The abstract machine: composite literals and append. -/
import Derived.Test.YtanfmlmcddanjaaGreatDoorRQaRows
set_option linter.all false
namespace Go.Qa
open Go Go.RowKit

/-- The elements that an appended source has. -/
def AS.src (st : AS) (H : AHeap) (esz : Nat) (x : AV) : Option (List AV) :=
  match x with
  | .row _ _ sz es => if sz = esz then some es else none
  | .pl (.slice none 0 _) => some []
  | .str s => if esz = 1 then some (s.map fun b => .int .u8 b.toNat) else none
  | .arr b start len sz => if sz = 1 ∧ esz = 1 then match H[b]? with
      | some (.cells cs) => if start + len ≤ cs.length then some ((cs.drop start).take len) else none
      | _ => none
    else none
  | _ => none
/-- How many bytes a row may come to. -/
def roomMax : Nat := 140737488355328
def AV.isSlice : AV → Bool
  | .row .. | .arr .. => true
  | .pl (.slice none 0 0) => true
  | _ => false
def appendAV (esz bytes : Nat) (x : AV) (ys : List AV) (d : Option Nat) (K : AS → AHeap → Prop) (st : AS) (H : AHeap) : Prop :=
  (ys = [] → x.isSlice = true ∧ K (st.set d x) H) ∧ (ys ≠ [] → match x with
    | .pl (.slice none 0 0) => ys.length * bytes ≤ roomMax ∧ K (st.set d (.row (some (H.length, ys.length)) false esz ys)) (H ++ [.row ys.length])
    | .row own full sz es => sz = esz ∧ (es.length + ys.length) * bytes ≤ roomMax ∧
        match full, own with
        | true, _ => K (st.set d (.row (some (H.length, es.length + ys.length)) false esz (es ++ ys))) (H ++ [.row (es.length + ys.length)])
        | false, some (t, k) => H[t]? = some (.row k) ∧ K (st.set d (.row (some (H.length, es.length + ys.length)) false esz (es ++ ys))) (H.set t AObj.dead ++ [.row (es.length + ys.length)])
        | false, none => False
    | _ => False)

section
variable {W0 : World} {G0 : Ghost} {w0 : World} {N : Nat} {G G' : Ghost} {L : Nat → Option Nat} {st : AS} {H H' : AHeap} {ca : Act} {w w' : World} {P : Program}

theorem run_places (fields : List Field) (h : ∀ f ∈ fields, (P.info? f.type).isSome = true) (w : World) :
    (fields.mapM (fun f => (do pure (f.offset, ← sizeOf f.type) : Sem (Nat × Nat)))).run P w = .ok (fields.map fun f => (f.offset, P.cellsOf f.type)) w := by
  induction fields with
  | nil => rfl
  | cons f fs ih =>
    obtain ⟨i, hi⟩ := Option.isSome_iff_exists.1 (h f (by simp))
    have h1 : (sizeOf f.type).run P w = .ok (P.cellsOf f.type) w := by simp [sizeOf, typeInfo, hi, Program.cellsOf]
    simp only [List.mapM_cons, Sem.run_bind, Result.andThen_ok, Sem.run_pure, h1, ih (fun x hx => h x (by simp [hx])), List.map_cons]

/-- The parts of a literal. -/
theorem parts_rel (h : Rel W0 G0 w0 N G L st H ca w) {xs : List Operand} {ys : List Opd} (e : xs.mapM (cOpd N) = some ys) : ys.length = xs.length ∧ ∀ i x, (ys.map st.ev)[i]? = some x → x.cells? ≠ none → VRel G x ((xs.map ca.eval).getD i undef) := by
  obtain ⟨h1, h2⟩ := Go.Qa.mapM_get' e
  refine ⟨h1, fun i x hx hc => ?_⟩
  simp only [List.getElem?_map, Option.map_eq_some_iff] at hx
  obtain ⟨y, hy, rfl⟩ := hx
  have hi : i < xs.length := by have := (List.getElem?_eq_some_iff.1 hy).1; omega
  obtain ⟨y', hy', hxy⟩ := h2 i xs[i] (List.getElem?_eq_getElem hi)
  rw [hy] at hy'; cases hy'
  have := (h.opd hxy).rel (fun t off q => by rw [q] at hc; exact hc rfl)
  rw [List.getD_eq_getElem?_getD, List.getElem?_map, List.getElem?_eq_getElem hi]
  exact this

theorem build_sound (h : Rel W0 G0 w0 N G L st H ca w) {t : TypeId} {fields : Array Field} {i : TypeInfo} {z : Value} {zc : List AV} {idx : List Nat} {xs : List Operand} {ys : List Opd} {pl : List (Nat × Nat)}
    (ht : P.underlying t = some (.struct fields)) (hi : P.info? t = some i) (hz : i.zero = some z) (hzc : z.cells.toList.mapM AV.ofCell = some zc) (hall : ∀ f ∈ fields.toList, (P.info? f.type).isSome = true)
    (hx : xs.mapM (cOpd N) = some ys) (hlen : idx.length = xs.length) (hpl : pl.length = idx.length) (hplace : ∀ (k : Nat) (j : Nat), idx[k]? = some j → ∃ f, fields[j]? = some f ∧ pl[k]? = some (f.offset, P.cellsOf f.type))
    {r : AV} (hr : (PExp.build zc ((pl.zip ys).map fun p => (p.1.1, p.1.2, p.2))).ev st H = some r) : Gives P G L st w (Instr.build t ((idx.zip (xs.map ca.eval)).toArray)) r := by
  simp only [PExp.ev, Option.map_eq_some_iff] at hr
  obtain ⟨cs, hcs, rfl⟩ := hr
  obtain ⟨hyl, hrel⟩ := parts_rel h hx
  have hzr := (mapM_cells (G := G) hzc).1
  -- the places
  have e1 : ((pl.zip ys).map fun p => (p.1.1, p.1.2, p.2)).map (fun p => (p.1, p.2.1, st.ev p.2.2)) = (((idx.zip pl).zip (ys.map st.ev)).map fun p => (p.1.2.1, p.1.2.2, p.2)) := by
    apply List.ext_getElem?
    intro k
    simp only [List.getElem?_map, List.getElem?_zip_eq_some, List.map_map]
    by_cases hk : k < ys.length
    · have a1 : k < pl.length := by omega
      have a2 : k < idx.length := by omega
      simp [List.getElem?_zip_eq_some, List.zip, List.getElem?_zipWith, List.getElem?_eq_getElem hk, List.getElem?_eq_getElem a1, List.getElem?_eq_getElem a2]
    · have a1 : ¬ k < pl.length := by omega
      simp [List.zip, List.getElem?_zipWith, List.getElem?_eq_none (Nat.le_of_not_lt hk)]
      try omega
  rw [e1] at hcs
  obtain ⟨us, hus, hur⟩ := fillAV_sound (G := G) (fun j => (fields.map fun f => (f.offset, P.cellsOf f.type))[j]?) (idx.zip pl) (ys.map st.ev) (xs.map ca.eval) (fun p hp => by
      obtain ⟨k, hk⟩ := List.getElem?_of_mem hp
      rw [List.getElem?_zip_eq_some] at hk
      obtain ⟨f, hf, hplk⟩ := hplace k p.1 hk.1
      rw [hk.2] at hplk
      have e9 := Option.some.inj hplk
      simp only [Array.getElem?_map, hf, Option.map_some, e9]) (by simp; omega) hzr (fun i x hx' => hrel i x hx') (by simp; omega) hcs
  refine .rel (v := .agg us.toArray) ?_ (.agg _ _ hur.1 hur.2)
  have e2 : ((idx.zip pl).zip (xs.map ca.eval)).map (fun p => (p.1.1, p.2)) = idx.zip (xs.map ca.eval) := by
    apply List.ext_getElem?
    intro k
    by_cases hk : k < idx.length
    · have a1 : k < pl.length := by omega
      have a2 : k < xs.length := by omega
      simp [List.zip, List.getElem?_zipWith, List.getElem?_eq_getElem hk, List.getElem?_eq_getElem a1, List.getElem?_eq_getElem a2]
    · simp [List.zip, List.getElem?_zipWith, List.getElem?_eq_none (Nat.le_of_not_lt hk)]
  rw [e2] at hus
  have hmap : (fields.mapM (fun f => (do pure (f.offset, ← sizeOf f.type) : Sem (Nat × Nat)))).run P w = .ok (fields.map fun f => (f.offset, P.cellsOf f.type)) w := by
    have : fields.mapM (fun f => (do pure (f.offset, ← sizeOf f.type) : Sem (Nat × Nat))) = List.toArray <$> fields.toList.mapM (fun f => (do pure (f.offset, ← sizeOf f.type) : Sem (Nat × Nat))) := by
      rw [← List.mapM_toArray]
    rw [this, Sem.run_map, run_places fields.toList hall w]
    show Result.ok _ w = _
    congr 1
    apply Array.ext'
    simp
  have ez : z.cells = z.cells.toList.toArray := by simp
  rw [ez] at *
  simp only [Instr.build, zeroValue, typeInfo, Sem.run_bind, run_program, Result.andThen_ok, hi, hz, Sem.run_pure, run_underlying ht, hmap]
  simp at hus ⊢
  rw [hus]
  rfl

theorem fillAV_seq {esz : Nat} : ∀ (xs : List AV) (k : Nat) (pre suf : List AV), pre.length = k * esz → suf.length = xs.length * esz → (∀ x ∈ xs, x.isSize esz = true) →
    fillAV (pre ++ suf) ((((List.range' k xs.length).map fun i => (i, i * esz, esz)).zip xs).map fun p => (p.1.2.1, p.1.2.2, p.2)) = some (pre ++ flat xs)
  | [], k, pre, suf, hp, hs, hx => by
    have : suf = [] := by simpa using hs
    subst this
    simp [fillAV, flat]
  | x :: xs, k, pre, suf, hp, hs, hx => by
    obtain ⟨cs, h1, h2, h3⟩ := AV.isSize_spec (hx x (by simp))
    simp only [List.length_cons, Nat.add_mul, Nat.one_mul] at hs
    simp only [List.length_cons, List.range'_succ, List.map_cons, List.zip_cons_cons, fillAV, h1]
    rw [if_pos ⟨h2, by simp; omega⟩]
    have e : over (pre ++ suf) (k * esz) cs = (pre ++ cs) ++ suf.drop esz := by
      unfold over
      rw [← hp, List.take_left', h2, List.drop_append, List.drop_eq_nil_of_le (by omega)]
      · simp
      · rfl
    rw [e, fillAV_seq xs (k + 1) (pre ++ cs) (suf.drop esz) (by simp [hp, h2, Nat.add_mul]) (by simp; omega) (fun y hy => hx y (by simp [hy]))]
    simp [flat, h3]

variable {o : Oper} {K : AS → AHeap → Prop} {Q : Exit → Act → World → Prop}
theorem wp_value0 {v : Value} (hr : (execOp ca.eval o).run P w = .ok (.value v) w') {K' : Act → World → Prop} (k : K' (ca.put o.dst v) w') : o.wp P ca w K' Q := by
  unfold Oper.wp; rw [hr]; exact k

theorem anys_rel (n : Nat) (vs : List Value) (h : vs.length = n) : VRels G (List.replicate n .any) vs :=
  ⟨by simp [h], fun j hj => by
    rw [List.getD_eq_getElem?_getD, List.getElem?_replicate]
    split <;> exact .any _⟩

/-- What is asked for at a concrete place. -/
def Post (W0 : World) (G0 : Ghost) (w0 : World) (N : Nat) (K : AS → AHeap → Prop) (ca : Act) (w : World) : Prop := ∃ st H, K st H ∧ Reach W0 G0 w0 N st H ca w
theorem VRels.ones' {cs : List AV} {vs : List Value} (h : VRels G cs vs) (h1 : ∀ c ∈ cs, c.one = true) : ∀ v ∈ vs, v.oneCell' = true := by
  intro v hv
  obtain ⟨j, hj, rfl⟩ := List.getElem_of_mem hv
  have hjc : j < cs.length := by rw [← h.1]; exact hj
  have := h.2 j hjc
  rw [List.getD_eq_getElem?_getD, List.getElem?_eq_getElem hjc, List.getD_eq_getElem?_getD, List.getElem?_eq_getElem hj] at this
  exact VRel.one this (h1 _ (List.getElem_mem _))

/-- A composite literal of a slice: what the model makes. -/
theorem bslice_run (h : Rel W0 G0 w0 N G L st H ca w) {t e : TypeId} {i : TypeInfo} {z : Value} (ht : P.underlying t = some (.slice e)) (hi : P.info? e = some i) (hz : i.zero = some z) {xs : List Operand} {ys : List Opd} (hx : xs.mapM (cOpd N) = some ys)
    (hsmall : xs.length * i.size ≤ 16777216) (hes : ∀ x ∈ ys.map st.ev, x.isSize i.size = true) :
    ∃ us : List Value, (Instr.buildSlice t xs.length (((List.range xs.length).zip (xs.map ca.eval)).toArray)).run P w = .ok (.slice (some ⟨w.heap.size, 0, none⟩) xs.length xs.length) (w.alloc (.cells us.toArray e)) ∧ VRels G (flat (ys.map st.ev)) us := by
  obtain ⟨hyl, hrel⟩ := parts_rel h hx
  have hsz : (sizeOf e).run P w = .ok i.size w := by simp [sizeOf, typeInfo, hi]
  have hzr : ∃ zero : Array Value, ((if xs.length * i.size = 0 then pure #[] else do pure (← zeroValue e).cells) : Sem (Array Value)).run P w = .ok zero w := by
    split
    · exact ⟨_, rfl⟩
    · exact ⟨z.cells, by simp [zeroValue, typeInfo, hi, hz]⟩
  obtain ⟨zero, hzr⟩ := hzr
  have key := fillAV_sound (G := G) (fun j => some (j * i.size, i.size)) ((List.range' 0 (ys.map st.ev).length).map fun j => (j, j * i.size, i.size)) (ys.map st.ev) (xs.map ca.eval) (fun p hp => by
      simp only [List.mem_map] at hp
      obtain ⟨j, _, rfl⟩ := hp
      rfl) (by simp) (anys_rel (xs.length * i.size) ((Array.range (xs.length * i.size)).map fun k => zero[k % zero.size]!).toList (by simp)) (fun i x hx' => hrel i x hx') (by simp; omega)
      (by
        have := fillAV_seq (esz := i.size) (ys.map st.ev) 0 [] (List.replicate (xs.length * i.size) .any) (by simp) (by simp [hyl]) hes
        simpa using this)
  obtain ⟨us, hus, hur⟩ := key
  refine ⟨us, ?_, hur⟩
  have e2 : ((((List.range' 0 (ys.map st.ev).length).map fun j => (j, j * i.size, i.size)).zip (xs.map ca.eval)).map fun p => (p.1.1, p.2)) = (List.range xs.length).zip (xs.map ca.eval) := by
    apply List.ext_getElem?
    intro k
    by_cases hk : k < xs.length
    · have : k < ys.length := by omega
      simp [List.zip, List.getElem?_zipWith, List.getElem?_eq_getElem hk, hyl, hk]
    · simp [List.zip, List.getElem?_zipWith, List.getElem?_eq_none (Nat.le_of_not_lt hk)]
  rw [e2] at hus
  rw [Array.toArray_toList] at hus
  have e3 : (((List.range xs.length).zip (xs.map ca.eval)).toArray).toList = (List.range xs.length).zip (xs.map ca.eval) := by simp
  simp only [Instr.buildSlice, Sem.run_bind, run_underlying ht, Result.andThen_ok, hsz]
  rw [if_neg (by omega)]
  by_cases h0 : xs.length * i.size = 0
  · rw [if_pos h0] at hzr
    cases hzr
    rw [if_pos h0]
    simp only [Sem.run_bind, Sem.run_pure, Result.andThen_ok]
    first | rw [hus] | rw [e3, hus]
    rfl
  · rw [if_neg h0] at hzr
    rw [if_neg h0]
    simp only [zeroValue, typeInfo, Sem.run_bind, run_program, Result.andThen_ok, hi, hz, Sem.run_pure] at hzr ⊢
    cases hzr
    first | rw [hus] | rw [e3, hus]
    rfl

theorem isSize_one {x : AV} (h : x.one = true) : x.isSize 1 = true := by
  cases x <;> simp_all [AV.isSize, AV.cells?, AV.one]
theorem flat_one : ∀ {es : List AV}, (∀ e ∈ es, e.one = true) → flat es = es
  | [], _ => rfl
  | e :: es, h => by
    have h1 := h e (by simp)
    have := flat_one (es := es) (fun x hx => h x (by simp [hx]))
    simp only [flat, List.flatMap_cons] at this ⊢
    rw [this]
    cases e <;> simp_all [AV.cells, AV.cells?, AV.one]

/-- What is appended, as the model takes it. -/
theorem src_sound (h : Rel W0 G0 w0 N G L st H ca w) {t e : TypeId} {size : Nat} {x : Operand} {x' : Opd} (hx : cOpd N x = some x') (ht : (∃ e', P.underlying t = some (.slice e')) ∨ (P.underlying t = some .string ∧ size = 1))
    (hstr : P.underlying t = some .string → ∃ s, st.ev x' = .str s) (hsl : (∃ e', P.underlying t = some (.slice e')) → ∀ s, st.ev x' ≠ .str s) {ys : List AV} (hy : st.src H size (st.ev x') = some ys) :
    (∀ y ∈ ys, y.isSize size = true) ∧ ∃ news : List Value, VRels G (flat ys) news ∧ Src P size t (ca.eval x) ys.length news w := by
  have h1 := h.opd hx
  generalize ca.eval x = vx at *
  generalize st.ev x' = a at *
  cases a <;> simp only [AS.src] at hy <;> try (cases hy; done)
  · rename_i s
    split at hy
    · rename_i hs1
      cases hy
      subst hs1
      have hk : P.underlying t = some .string := by
        rcases ht with q | ⟨q, _⟩
        · exact absurd rfl (hsl q s)
        · exact q
      obtain ⟨e1, _⟩ := h1.str
      rw [e1]
      refine ⟨fun y hy => ?_, byteCells (bs s), ?_, by have := Src.ofString (P := P) w hk (bs s); rwa [bs_size, show s.length = (s.map fun b => AV.int .u8 b.toNat).length by simp] at this⟩
      · obtain ⟨b, _, rfl⟩ := List.mem_map.1 hy
        rfl
      · rw [flat_one (by intro e he; obtain ⟨b, _, rfl⟩ := List.mem_map.1 he; rfl)]
        refine ⟨by rw [byteCells_length, bs_size]; simp, fun j hj => ?_⟩
        simp at hj
        simp [byteCells, bs_data, List.getD_eq_getElem?_getD, hj]
        exact .int _ _
    · cases hy
  · rename_i u
    split at hy
    · rename_i c e0
      cases e0
    · rename_i c e0
      cases e0
      cases hy
      have hk : ∃ e', P.underlying t = some (.slice e') := by
        rcases ht with q | ⟨q, _⟩
        · exact q
        · obtain ⟨s, q⟩ := hstr q; cases q
      obtain ⟨e', hk⟩ := hk
      rw [h1.pl]
      exact ⟨by simp, [], .nil G, Src.ofNil w hk _⟩
    · rename_i e0; cases e0
    · rename_i e0; cases e0
    · cases hy
  · rename_i own full sz es0
    split at hy
    · rename_i hsz
      cases hy
      subst hsz
      have hr := h1.rel (by simp)
      have hsizes := row_sizes hr
      obtain ⟨a, cap, rfl⟩ : ∃ a cap, vx = .slice (some a) ys.length cap := by cases hr; exact ⟨_, _, rfl⟩
      obtain ⟨_, hsp, us, hus, him⟩ := row_cells hr
      have hk : ∃ e', P.underlying t = some (.slice e') := by
        rcases ht with q | ⟨q, _⟩
        · exact q
        · obtain ⟨s, q⟩ := hstr q; cases q
      obtain ⟨e', hk⟩ := hk
      refine ⟨hsizes, us, hus, Src.ofSlice w hk a _ _ us (by rw [hus.1, flat_length hsizes]) (fun j u hj => ?_) (hus.ones' flat_ones)⟩
      have hlt : j < us.length := (List.getElem?_eq_some_iff.1 hj).1
      rw [hus.1, flat_length hsizes] at hlt
      have hpos : 0 < ys.length := by
        rcases Nat.eq_zero_or_pos ys.length with q | q
        · rw [q] at hlt; simp at hlt
        · exact q
      have e3 : a = ⟨a.block, a.off, none⟩ := by
        have := hsp hpos
        cases a; simp_all
      rw [e3, add_plain]
      exact (h.inv.imm _ _ _ (him j u hj)).2
    · cases hy
  · rename_i b start len sz
    split at hy
    · rename_i hsz
      obtain ⟨rfl, rfl⟩ := hsz
      split at hy
      · rename_i cs hb
        split at hy
        · rename_i hle
          cases hy
          have hr := h1.rel (by simp)
          cases hr with
          | arr _ _ _ _ B cap z hB hc hx' hs hz =>
            obtain ⟨B', vs, ty, fz, hB', hh, hs', hfz, hl, hcv⟩ := h.inv.obj b _ hb
            rw [hB] at hB'; cases hB'
            have hk : ∃ e', P.underlying t = some (.slice e') := by
              rcases ht with q | ⟨q, _⟩
              · exact q
              · obtain ⟨s, q⟩ := hstr q; cases q
            obtain ⟨e', hk⟩ := hk
            have hone : ∀ c ∈ (cs.drop start).take len, c.one = true := by
              intro c hc
              obtain ⟨j, hj, rfl⟩ := List.getElem_of_mem hc
              simp at hj
              have := (hcv (start + j) (by omega)).1
              rw [List.getD_eq_getElem?_getD, List.getElem?_eq_getElem (by omega)] at this
              simpa using this
            have hlen : ((cs.drop start).take len).length = len := by simp; omega
            have hrels : VRels G ((cs.drop start).take len) ((vs.toList.drop start).take len) := by
              refine ⟨by simp; omega, fun j hj => ?_⟩
              rw [hlen] at hj
              rw [getD_take _ _ _ _ hj, getD_take _ _ _ _ hj, getD_drop, getD_drop]
              exact (hcv _ (by omega)).2
            refine ⟨fun y hy => isSize_one (hone y hy), (vs.toList.drop start).take len, by rw [flat_one hone]; exact hrels, ?_⟩
            rw [hlen]
            refine Src.ofSlice w hk _ _ _ _ (by simp; omega) (fun j u hj => ?_) (hrels.ones' hone)
            have hlt := (List.getElem?_eq_some_iff.1 hj).1
            simp at hlt
            rw [List.getElem?_take_of_lt (by omega), List.getElem?_drop] at hj
            rw [add_plain]
            simp only [World.cell?, hh, Nat.mul_one]
            simpa using hj
        · cases hy
      · cases hy
    · cases hy

theorem grownCap_bound (w : World) (need old : Nat) (e : TypeId) (h : need ≤ 9223372036854775807) : need ≤ grownCap w need old e ∧ grownCap w need old e ≤ maxLen :=
  ⟨grownCap_ge w need old e, grownCap_le_maxLen w need old e (by unfold maxLen; omega)⟩

/-- The row behind an append that finds no room. -/
theorem append_new (h : Rel W0 G0 w0 N G L st H ca w) {t tx ty e : TypeId} {i : TypeInfo} {z : Value} (ht : P.underlying t = some (.slice e)) (hi : P.info? e = some i) (hz : i.zero = some z) (hzs : z.cells.size = i.size) (hb : 0 < i.bytes)
    {base : Option Addr} {sLen sCap : Nat} {es ys : List AV} {olds news : List Value} {x : Value} (hold : (Builtin.firstCells i.size sLen (.slice base sLen sCap)).run P w.drew = .ok olds.toArray w.drew) (ho : VRels G (flat es) olds) (hes : ∀ e ∈ es, e.isSize i.size = true) (hsl : sLen = es.length)
    (hs : Src P i.size tx x ys.length news w) (hn : VRels G (flat ys) news) (hys : ∀ y ∈ ys, y.isSize i.size = true) (hg : sCap < sLen + ys.length) (hroom : (es.length + ys.length) * i.bytes ≤ roomMax)
    (hop : execOp ca.eval o = (do pure (.value (← Builtin.append_ #[t, tx] ty #[.slice base sLen sCap, x])))) (k : K (st.set o.dst (.row (some (H.length, es.length + ys.length)) false i.size (es ++ ys))) (H ++ [.row (es.length + ys.length)])) :
    o.wp P ca w (Post W0 G0 w0 N K) Q := by
  subst hsl
  have hle : es.length + ys.length ≤ roomMax := Nat.le_trans (Nat.le_mul_of_pos_right _ hb) hroom
  unfold roomMax at hle hroom
  have run := run_append_grow_src (P := P) w t tx ty e i z ht hi hz base es.length sCap olds hold x ys.length news hs hg (by omega) (growslice_fits hg hroom)
  have hcap := grownCap_bound w (es.length + ys.length) sCap e (by omega)
  have hall : ∀ x ∈ es ++ ys, x.isSize i.size = true := fun x hx => (List.mem_append.1 hx).elim (hes x) (hys x)
  have hrels : VRels G (flat (es ++ ys)) (olds ++ news) := by rw [flat_append]; exact VRels.append ho hn
  have hlen : (olds ++ news).length = (es.length + ys.length) * i.size := by rw [hrels.1, flat_length hall, List.length_append]
  obtain ⟨G', hnx, hiv, hrow⟩ := h.inv.drew.newRow (es ++ ys) i.size (olds ++ news) (Builtin.zeroCells z.cells (grownCap w (es.length + ys.length) sCap e - (es.length + ys.length))).toList e (grownCap w (es.length + ys.length) sCap e) hall hrels
    (by
      have hz' : (Builtin.zeroCells z.cells (grownCap w (es.length + ys.length) sCap e - (es.length + ys.length))).toList.length = (grownCap w (es.length + ys.length) sCap e - (es.length + ys.length)) * i.size := by
        rw [Array.length_toList, size_zeroCells, hzs]
      rw [List.length_append, hlen, hz', ← Nat.add_mul]
      congr 1; omega) (by simpa using hcap.1) hcap.2 true (by simp) (es.length + ys.length)
  have eA : (olds ++ news ++ (Builtin.zeroCells z.cells (grownCap w (es.length + ys.length) sCap e - (es.length + ys.length))).toList).toArray = (olds ++ news).toArray ++ Builtin.zeroCells z.cells (grownCap w (es.length + ys.length) sCap e - (es.length + ys.length)) := by
    apply Array.ext'; simp
  rw [eA] at hnx hiv
  have hrow' : VRel G' (.row (some (H.length, es.length + ys.length)) false i.size (es ++ ys)) (.slice (some ⟨w.heap.size, 0, none⟩) (es.length + ys.length) (grownCap w (es.length + ys.length) sCap e)) := by
    have : w.drew.heap.size = w.heap.size := rfl
    rw [this] at hrow
    simpa using hrow
  refine wp_value0 (by rw [hop]; simp only [Sem.run_bind, run, Result.andThen_ok, Sem.run_pure]; rfl) ?_
  exact ⟨_, _, k, _, _, (h.drew.step hnx (by simpa using hiv)).set o.dst (.of hrow') (by simp)⟩

/-- The append of no elements. -/
theorem append_none {t tx ty e : TypeId} {i : TypeInfo} (ht : P.underlying t = some (.slice e)) (hi : P.info? e = some i) {base : Option Addr} {sLen sCap : Nat} {x : Value} (hs : Src P i.size tx x 0 [] w) (hl : sLen ≤ sCap) :
    (Builtin.append_ #[t, tx] ty #[.slice base sLen sCap, x]).run P w = .ok (.slice base sLen sCap) w := by
  have hc := hs.cells
  rcases hs.kind with ⟨e', hk⟩ | hk <;> cases base <;> simp [Builtin.append_, run_underlying ht, run_underlying hk, sizeOf, typeInfo, hi, hs.len, hl, hc, storeCells]

theorem append_sound (h : Rel W0 G0 w0 N G L st H ca w) {t tx e : TypeId} {i : TypeInfo} {z : Value} (ht : P.underlying t = some (.slice e)) (hi : P.info? e = some i) (hz : i.zero = some z) (hzs : z.cells.size = i.size) (hb : 0 < i.bytes)
    {s x : Operand} {s' x' : Opd} (hs' : cOpd N s = some s') (hx' : cOpd N x = some x') (hop : execOp ca.eval o = (do pure (.value (← Builtin.append_ #[t, tx] o.type #[ca.eval s, ca.eval x]))))
    {ys : List AV} {news : List Value} (hys : ∀ y ∈ ys, y.isSize i.size = true) (hn : VRels G (flat ys) news) (hs : Src P i.size tx (ca.eval x) ys.length news w) (k : appendAV i.size i.bytes (st.ev s') ys o.dst K st H) : o.wp P ca w (Post W0 G0 w0 N K) Q := by
  have h1 := h.opd hs'
  obtain ⟨k0, k1⟩ := k
  generalize hvs : ca.eval s = vs at *
  have hloc : ∀ i off, st.ev s' = .lref i off → st.loc i ≠ none := fun i off e => h.opd_loc hs' e
  generalize st.ev s' = a at *
  rcases ys with _ | ⟨y, ys'⟩
  · -- nothing
    obtain ⟨hsl, k0⟩ := k0 rfl
    have hnews : news = [] := by have := hn.1; simpa [flat] using this
    subst hnews
    have hval : ∃ base sLen sCap, vs = .slice base sLen sCap ∧ sLen ≤ sCap := by
      cases a <;> simp only [AV.isSlice] at hsl <;> try (cases hsl; done)
      · split at hsl
        · rename_i e0; cases e0
        · rename_i e0; cases e0
        · rename_i e0; cases e0
          exact ⟨_, _, _, h1.pl, Nat.le_refl _⟩
        · cases hsl
      · have hr := h1.rel (by simp)
        cases hr
        exact ⟨_, _, _, rfl, by assumption⟩
      · have hr := h1.rel (by simp)
        cases hr
        exact ⟨_, _, _, rfl, by assumption⟩
    obtain ⟨base, sLen, sCap, rfl, hle⟩ := hval
    have run := append_none (P := P) (ty := o.type) (base := base) ht hi (by simpa using hs) hle
    refine wp_value0 (by rw [hop]; simp only [Sem.run_bind, run, Result.andThen_ok, Sem.run_pure]; rfl) ?_
    exact ⟨_, _, k0, _, _, h.set o.dst h1 hloc⟩
  · have k1 := k1 (by simp)
    generalize hY : y :: ys' = ys at *
    have hpos : 0 < ys.length := by rw [← hY]; simp
    split at k1
    · -- nil
      have e9 := h1.pl
      subst e9
      exact append_new (es := []) (base := none) (sLen := 0) (sCap := 0) (olds := []) h ht hi hz hzs hb (by simp [Builtin.firstCells]) (.nil G) (by simp) rfl hs hn hys (by omega) (by simpa using k1.1) hop (by simpa using k1.2)
    · rename_i own full sz es _
      obtain ⟨rfl, hroom, k1⟩ := k1
      have hr := h1.rel (by simp)
      have hsizes := row_sizes hr
      obtain ⟨a, cap, rfl⟩ : ∃ a cap, vs = .slice (some a) es.length cap := by cases hr; exact ⟨_, _, rfl⟩
      obtain ⟨_, hsp, us, hus, him⟩ := row_cells hr
      have hcap : es.length ≤ cap ∧ cap ≤ maxLen ∧ (full = true → cap = es.length) ∧ (∀ t n, own = some (t, n) → a.spot = none ∧ G.at_ t n = some (a.block, a.off + es.length * i.size) ∧ ∃ sz, G.sz a.block = some sz ∧ a.off + cap * i.size ≤ sz) := by
        cases hr with
        | row _ _ _ _ _ _ cv hs he hm hv hc hx hf ho => exact ⟨hc, hx, hf, ho⟩
      have hold : (Builtin.firstCells i.size es.length (.slice (some a) es.length cap)).run P w.drew = .ok us.toArray w.drew := by
        refine run_firstCells_some w.drew i.size es.length a es.length cap us (by rw [hus.1, flat_length hsizes]) (fun j u hj => ?_)
        have hlt : j < us.length := (List.getElem?_eq_some_iff.1 hj).1
        rw [hus.1, flat_length hsizes] at hlt
        have hp : 0 < es.length := by
          rcases Nat.eq_zero_or_pos es.length with q | q
          · rw [q] at hlt; simp at hlt
          · exact q
        have e3 : a = ⟨a.block, a.off, none⟩ := by
          have := hsp hp
          cases a; simp_all
        rw [e3, add_plain]
        exact (h.inv.imm _ _ _ (him j u hj)).2
      cases full with
      | true =>
        have hce := hcap.2.2.1 rfl
        exact append_new h ht hi hz hzs hb hold hus hsizes rfl hs hn hys (by omega) hroom hop k1
      | false =>
        rcases own with _ | ⟨tk, n⟩
        · exact k1.elim
        · obtain ⟨htk, k1⟩ := k1
          obtain ⟨hsp', hat, sz, hsz, hszle⟩ := hcap.2.2.2 tk n rfl
          by_cases hfit : es.length + ys.length ≤ cap
          · -- in place
            obtain ⟨B, E, vs, ty, fz, ha, hh, hs2, hE, himm, hfz⟩ := h.inv.obj tk _ htk
            rw [hat] at ha
            cases ha
            have hmul : (es.length + ys.length) * i.size ≤ cap * i.size := Nat.mul_le_mul_right _ hfit
            rw [hs2] at hsz; cases hsz
            have hnl : news.length = ys.length * i.size := by rw [hn.1, flat_length hys]
            rw [Nat.add_mul] at hmul
            have e3 : a = ⟨a.block, a.off, none⟩ := by cases a; simp_all
            have run := run_append_room_src (P := P) w t tx o.type e i ht hi a.block a.off es.length cap (ca.eval x) ys.length news hs hfit
              (fun j hj => by simp only [World.cell?, hh]; simp; omega) (fun j hj => by
                have := hfz (a.off + es.length * i.size + j) (by omega) (by omega)
                simp only [World.frozen?, hh]
                simpa using this)
            rw [← e3] at run
            obtain ⟨hiv, hle, _⟩ := h.inv.grow tk n a.block (a.off + es.length * i.size) (es.length + ys.length) vs.toList ty fz news htk hat (by simpa using hh) (by simp; omega)
            have hnx : Next G w (G.grow a.block (a.off + es.length * i.size) news H.length (es.length + ys.length)) (w.setCells a.block (a.off + es.length * i.size) news) := by
              have := (Next.refl G w).setCells a.block vs.size (a.off + es.length * i.size) news hs2
              exact ⟨hle, this.size, this.keep, this.fresh⟩
            have hall : ∀ x ∈ es ++ ys, x.isSize i.size = true := fun x hx => (List.mem_append.1 hx).elim (hsizes x) (hys x)
            have hrow : VRel (G.grow a.block (a.off + es.length * i.size) news H.length (es.length + ys.length)) (.row (some (H.length, es.length + ys.length)) false i.size (es ++ ys)) (.slice (some ⟨a.block, a.off, none⟩) (es ++ ys).length cap) := by
              refine row_of_imm hall (us := us ++ news) (by rw [flat_append]; exact VRels.append (hus.mono hle) (hn.mono hle)) (fun q u hq => ?_) (by simpa using hfit) hcap.2.1 (by simp) (fun t' n' q => ?_)
              · have hul : us.length = es.length * i.size := by rw [hus.1, flat_length hsizes]
                by_cases hlt : q < us.length
                · rw [List.getElem?_append_left hlt] at hq
                  exact hle.imm _ _ _ (him q u hq)
                · rw [List.getElem?_append_right (by omega)] at hq
                  have hq2 := (List.getElem?_eq_some_iff.1 hq).1
                  simp only [Ghost.grow]
                  rw [if_pos ⟨trivial, by omega, by omega⟩, ← hq]
                  congr 1; omega
              · simp at q
                obtain ⟨rfl, rfl⟩ := q
                refine ⟨?_, vs.size, hle.sz _ _ hs2, hszle⟩
                simp [Ghost.grow, hnl, Nat.add_mul, Nat.add_assoc]
            rw [← e3, List.length_append] at hrow
            refine wp_value0 (by rw [hop]; simp only [Sem.run_bind, run, Result.andThen_ok, Sem.run_pure]; rfl) ?_
            exact ⟨_, _, k1, _, _, (h.step hnx hiv).set o.dst (.of hrow) (by simp)⟩
          · have hk := h.inv.kill tk n htk
            have h' : Rel W0 G0 w0 N G L st (H.set tk AObj.dead) ca w := h.step (Next.refl G w) hk
            refine append_new (H := H.set tk AObj.dead) h' ht hi hz hzs hb hold hus hsizes rfl hs hn hys (by omega) hroom hop ?_
            simpa using k1
    · exact k1.elim
end
end Go.Qa
