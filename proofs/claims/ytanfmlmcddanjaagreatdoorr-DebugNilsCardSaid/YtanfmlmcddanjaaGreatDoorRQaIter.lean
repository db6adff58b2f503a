/- The abstract machine: ranging over a map; some conversions. -/
import Derived.Test.YtanfmlmcddanjaaGreatDoorRQaMap
import Derived.Laws.BytesString
set_option linter.all false
namespace Go.Qa
open Go Go.RowKit

abbrev Ent := AV × AV × Nat
/-- What the next step of a range may give: nothing any more, or an entry. -/
def candAV (es : List Ent) (since : Nat) (seen : List Nat) : List (Option Ent) :=
  let left := es.filter fun e => !seen.contains e.2.2
  let old := left.filter fun e => decide (e.2.2 < since)
  let new := left.filter fun e => decide (since ≤ e.2.2)
  (if old.isEmpty then [none] else []) ++ (old ++ new).map some
def rangeAV (x : AV) (d : Option Nat) (K : AS → AHeap → Prop) (st : AS) (H : AHeap) : Prop :=
  match x with
  | .pl (.map none) => K (st.set d (.itr H.length)) (H ++ [.iter none 0 [] 0])
  | .map m => match H[m]? with
    | some (.map _ clock) => K (st.set d (.itr H.length)) (H ++ [.iter (some m) clock [] clock])
    | _ => False
  | _ => False
def nextAV (x : AV) (d : Option Nat) (K : AS → AHeap → Prop) (st : AS) (H : AHeap) : Prop :=
  match x with
  | .itr r => match H[r]? with
    | some (.iter none _ _ _) => K (st.set d (.tup [.bool false])) H
    | some (.iter (some m) since seen last) => match H[m]? with
      | some (.map es clock) => (seen = [] ∨ es = [] ∨ ∃ e ∈ es, e.2.2 < last) ∧ ∀ c ∈ candAV es since seen, match c with
        | none => K (st.set d (.tup [.bool false])) H
        | some e => K (st.set d (.tup [.bool true, e.1, e.2.1])) (H.set r (.iter (some m) since (seen ++ [e.2.2]) clock))
      | _ => False
    | _ => False
  | _ => False
/-- The entry of the last step. -/
def entryAV (H : AHeap) (x : AV) : Option AV :=
  match x with
  | .itr r => match H[r]? with
    | some (.iter (some m) _ seen stepped) => match H[m]?, seen.getLast? with
      | some (.map es clock), some stamp => if clock = stepped then (es.find? fun e => e.2.2 == stamp).map fun e => .tup [e.1, e.2.1] else none
      | _, _ => none
    | _ => none
  | _ => none

section
variable {W0 : World} {G0 : Ghost} {w0 : World} {N : Nat} {G G' : Ghost} {L : Nat → Option Nat} {st : AS} {H H' : AHeap} {ca : Act} {w w' : World} {P : Program} {o : Oper} {K : AS → AHeap → Prop} {Q : Exit → Act → World → Prop}

theorem ERel.filter (p : Nat → Bool) : ∀ {es : List Ent} {ms : List MapEntry}, ERel G es ms → ERel G (es.filter fun e => p e.2.2) (ms.filter fun m => p m.born)
  | [], [], h => .nil G
  | [], m :: ms, h => by simp [ERel] at h
  | e :: es, [], h => by simp [ERel] at h
  | e :: es, m :: ms, h => by
    obtain ⟨⟨h1, h2, h3⟩, h4⟩ := h.cons
    have ih := ERel.filter p h4
    simp only [List.filter_cons, h3]
    split
    · refine ⟨by simp [ih.1], fun j a b ha hb => ?_⟩
      cases j with
      | zero => simp at ha hb; subst ha hb; exact ⟨h1, h2, h3⟩
      | succ j => exact ih.2 j a b (by simpa using ha) (by simpa using hb)
    · exact ih
theorem ERel.append {es fs : List Ent} {ms ns : List MapEntry} (h : ERel G es ms) (k : ERel G fs ns) : ERel G (es ++ fs) (ms ++ ns) := by
  refine ⟨by simp [h.1, k.1], fun j a b ha hb => ?_⟩
  rcases Nat.lt_or_ge j es.length with q | q
  · rw [List.getElem?_append_left q] at ha
    rw [List.getElem?_append_left (by rw [h.1]; exact q)] at hb
    exact h.2 j a b ha hb
  · rw [List.getElem?_append_right q] at ha
    rw [List.getElem?_append_right (by rw [h.1]; exact q), h.1] at hb
    exact k.2 _ a b ha hb

theorem range_sound (h : Rel W0 G0 w0 N G L st H ca w) {t kt et : TypeId} (ht : P.underlying t = some (.map kt et)) {x : Operand} {x' : Opd} (hx : cOpd N x = some x') (hop : execOp ca.eval o = (do pure (.value (← Instr.range t (ca.eval x)))))
    (k : rangeAV (st.ev x') o.dst K st H) : o.wp P ca w (Post W0 G0 w0 N K) Q := by
  have h1 := h.opd hx
  generalize hvx : ca.eval x = vx at *
  generalize st.ev x' = a at *
  have fin : ∀ (ob : Obj) (io : AObj), (∀ k, io ≠ .row k) → ORel (G.addB H.length w.heap.size 0) (w.alloc ob) H.length io → (Instr.range t vx).run P w = .ok (.pointer (some ⟨w.heap.size, 0, none⟩)) (w.alloc ob) → K (st.set o.dst (.itr H.length)) (H ++ [io]) → o.wp P ca w (Post W0 G0 w0 N K) Q := by
    intro ob io hr ho hrun k
    have hi := h.inv.addB io ob 0 hr ho
    have hn := h.inv.addB_next ob 0
    refine wp_value0 (by rw [hop]; simp only [Sem.run_bind, hrun, Result.andThen_ok, Sem.run_pure]; rfl) ?_
    exact ⟨_, _, k, _, _, (h.step hn hi).set o.dst (.of (.itr _ _ (by simp [Ghost.addB]))) (by simp)⟩
  unfold rangeAV at k
  split at k
  · have e := h1.pl
    subst e
    refine fin (.mapIter none 0 #[] 0) (.iter none 0 [] 0) (by simp) ⟨w.heap.size, by simp [Ghost.addB], none, heap_push_new, rfl⟩ ?_ k
    simp [Instr.range, run_underlying ht, World.alloc_eq]
  · rename_i m
    have h2 := h1.rel (by simp)
    split at k
    · rename_i es clock hm
      cases h2 with
      | map _ B hB =>
        obtain ⟨B', ms, hB', hh, her⟩ := ERel.of_obj (h.inv.obj m _ hm)
        rw [hB] at hB'; cases hB'
        have hg : (getObj B).run P w = .ok (.map ms.toArray clock) w := by simp [getObj, Sem.run, hh]
        have hlt : m < H.length := (List.getElem?_eq_some_iff.1 hm).1
        refine fin (.mapIter (some B) clock #[] clock) (.iter (some m) clock [] clock) (by simp) ⟨w.heap.size, by simp [Ghost.addB], some B, heap_push_new, B, ?_, rfl⟩ ?_ k
        · simp only [Ghost.addB]; rw [if_neg (by omega)]; exact hB
        · simp [Instr.range, run_underlying ht, hg]
    · exact k.elim
  · exact k.elim

/-- The model's candidates. -/
def candC (ms : List MapEntry) (since : Nat) (seen : List Nat) : List (Option MapEntry) :=
  let left := ms.filter fun e => !seen.contains e.born
  let old := left.filter fun e => decide (e.born < since)
  let new := left.filter fun e => decide (since ≤ e.born)
  (if old.isEmpty then [none] else []) ++ (old ++ new).map some
theorem cand_rel {es : List Ent} {ms : List MapEntry} (h : ERel G es ms) (since : Nat) (seen : List Nat) : (candC ms since seen).length = (candAV es since seen).length ∧
    ∀ (i : Nat) (c : Option Ent) (c' : Option MapEntry), (candAV es since seen)[i]? = some c → (candC ms since seen)[i]? = some c' → match c, c' with
      | none, none => True
      | some e, some m => VRel G e.1 m.key ∧ VRel G e.2.1 m.val ∧ e.2.2 = m.born
      | _, _ => False := by
  have h1 := h.filter (fun b => !seen.contains b)
  have h2 := h1.filter (fun b => decide (b < since))
  have h3 := h1.filter (fun b => decide (since ≤ b))
  have h4 := h2.append h3
  simp only [candC, candAV]
  generalize (ms.filter fun e => !seen.contains e.born).filter (fun e => decide (e.born < since)) = old' at *
  generalize (es.filter fun e => !seen.contains e.2.2).filter (fun e => decide (e.2.2 < since)) = old at *
  generalize (ms.filter fun e => !seen.contains e.born).filter (fun e => decide (since ≤ e.born)) = new' at *
  generalize (es.filter fun e => !seen.contains e.2.2).filter (fun e => decide (since ≤ e.2.2)) = new at *
  have key : ∀ (i : Nat) (c : Option Ent) (c' : Option MapEntry), ((old ++ new).map some)[i]? = some c → ((old' ++ new').map some)[i]? = some c' → match c, c' with
      | none, none => True
      | some e, some m => VRel G e.1 m.key ∧ VRel G e.2.1 m.val ∧ e.2.2 = m.born
      | _, _ => False := by
    intro i c c' hc hc'
    rw [List.getElem?_map] at hc hc'
    obtain ⟨e, he, rfl⟩ := Option.map_eq_some_iff.1 hc
    obtain ⟨m, hm, rfl⟩ := Option.map_eq_some_iff.1 hc'
    exact h4.2 i e m he hm
  have hl : (old' ++ new').length = (old ++ new).length := h4.1
  have he : old'.isEmpty = old.isEmpty := by
    have := h2.1
    cases old' <;> cases old <;> simp_all
  rw [he]
  cases old.isEmpty with
  | false => exact ⟨by simpa using hl, by simpa using key⟩
  | true =>
    refine ⟨by simpa using hl, fun i c c' hc hc' => ?_⟩
    cases i with
    | zero => simp at hc hc'; subst hc hc'; trivial
    | succ i => exact key i c c' (by simpa using hc) (by simpa using hc')

theorem candC_pos (ms : List MapEntry) (since : Nat) (seen : List Nat) : 0 < (candC ms since seen).length := by
  simp only [candC]
  split
  · simp
  · rename_i q
    rw [List.nil_append, List.length_map, List.length_append]
    generalize ((ms.filter fun e => !seen.contains e.born).filter fun e => decide (e.born < since)) = l at *
    cases l
    · simp at q
    · simp; omega

theorem next_sound (h : Rel W0 G0 w0 N G L st H ca w) {x : Operand} {x' : Opd} (hx : cOpd N x = some x') {ty : TypeId} (hop : execOp ca.eval o = (do pure (.value (← Instr.next (ca.eval x) false ty))))
    (k : nextAV (st.ev x') o.dst K st H) : o.wp P ca w (Post W0 G0 w0 N K) Q := by
  have h1 := h.opd hx
  generalize hvx : ca.eval x = vx at *
  generalize st.ev x' = a at *
  unfold nextAV at k
  split at k
  · rename_i r
    have h2 := h1.rel (by simp)
    cases h2 with
    | itr _ R hR =>
      split at k
      · rename_i sn se sp hr
        obtain ⟨R', hR', mB, hh, hmB⟩ := h.inv.obj r _ hr
        rw [hR] at hR'; cases hR'
        simp only at hmB
        subst hmB
        have hg : (getObj R).run P w = .ok (.mapIter none sn se.toArray sp) w := by simp [getObj, Sem.run, hh]
        have run : (Instr.next (.pointer (some ⟨R, 0, none⟩)) false ty).run P w = .ok (.tuple #[.bool false]) w := by
          simp [Instr.next, hg]
        refine wp_value0 (by rw [hop]; simp only [Sem.run_bind, run, Result.andThen_ok, Sem.run_pure]; rfl) ?_
        exact ⟨_, _, k, _, _, h.set o.dst (.of (.tup [.bool false] [.bool false] rfl (VRels.cons (.bool _) (.nil G)).2)) (by simp)⟩
      · rename_i m since seen last hr
        obtain ⟨R', hR', mB, hh, M, hM, hmB⟩ := h.inv.obj r _ hr
        rw [hR] at hR'; cases hR'
        subst hmB
        split at k
        · rename_i es clock hm
          obtain ⟨hok, k⟩ := k
          obtain ⟨M', ms, hM', hhm, her⟩ := ERel.of_obj (h.inv.obj m _ hm)
          rw [hM] at hM'; cases hM'
          have hg : (getObj R).run P w = .ok (.mapIter (some M) since seen.toArray last) w := by simp [getObj, Sem.run, hh]
          have hg2 : (getObj M).run P w = .ok (.map ms.toArray clock) w := by simp [getObj, Sem.run, hhm]
          obtain ⟨hcl, hcr⟩ := cand_rel her since seen
          have hpos := candC_pos ms since seen
          -- the choice
          obtain ⟨i, w1, hch, hi, hw1⟩ : ∃ i w1, (choose (.mapNext (candC ms since seen).length)).run P w = .ok i w1 ∧ i < (candC ms since seen).length ∧ (w1 = w ∨ w1 = w.drew) := by
            rw [run_choose_drew]
            split
            · exact ⟨0, w, rfl, hpos, .inl rfl⟩
            · exact ⟨_, w.drew, rfl, Nat.mod_lt _ hpos, .inr rfl⟩
          have h' : Rel W0 G0 w0 N G L st H ca w1 := by
            rcases hw1 with rfl | rfl
            · exact h
            · exact h.drew
          have hh1 : w1.heap = w.heap := by rcases hw1 with rfl | rfl <;> rfl
          have hguard : (!seen.toArray.isEmpty && !ms.toArray.isEmpty && ms.toArray.all (fun e => decide (e.born ≥ last))) = false := by
            rcases hok with rfl | rfl | ⟨e, he, hlt⟩
            · simp
            · have : ms = [] := by have := her.1; simpa using this
              subst this; simp
            · obtain ⟨j, hj⟩ := List.getElem?_of_mem he
              have hjl : j < ms.length := by rw [her.1]; exact (List.getElem?_eq_some_iff.1 hj).1
              have hb := (her.2 j e _ hj (List.getElem?_eq_getElem hjl)).2.2
              have : ms.all (fun e => decide (e.born ≥ last)) = false := by
                rw [List.all_eq_false]
                exact ⟨ms[j], List.getElem_mem hjl, by simp; omega⟩
              simp [this]
          have hcands : ((if ((ms.toArray.filter fun e => !seen.toArray.contains e.born).filter fun e => decide (e.born < since)).isEmpty then #[none] else #[]) ++
              (((ms.toArray.filter fun e => !seen.toArray.contains e.born).filter fun e => decide (e.born < since)) ++ ((ms.toArray.filter fun e => !seen.toArray.contains e.born).filter fun e => decide (e.born ≥ since))).map some) = (candC ms since seen).toArray := by
            apply Array.ext'
            simp only [candC]
            simp
            split <;> simp_all
          have run : ∀ (c' : Option MapEntry) (w2 : World) (v : Value), (candC ms since seen)[i]? = some c' → ((match c' with
              | some e => (do setObj R (.mapIter (some M) since (seen.toArray.push e.born) clock); pure (.tuple #[.bool true, e.key, e.val]) : Sem Value)
              | none => pure (.tuple #[.bool false])).run P w1 = .ok v w2) → (Instr.next (.pointer (some ⟨R, 0, none⟩)) false ty).run P w = .ok v w2 := by
            intro c' w2 v hc' hr
            simp only [Instr.next, Sem.run_bind, hg, Result.andThen_ok, hg2, hguard, Bool.false_eq_true, if_false]
            rw [hcands]
            simp only [List.size_toArray, hch, Result.andThen_ok, List.getElem?_toArray, hc']
            cases c' with
            | none => exact hr
            | some e => exact hr
          have hci : ∃ c', (candC ms since seen)[i]? = some c' := ⟨_, List.getElem?_eq_getElem hi⟩
          obtain ⟨c', hc'⟩ := hci
          have hia : i < (candAV es since seen).length := by rw [← hcl]; exact hi
          have hca : (candAV es since seen)[i]? = some (candAV es since seen)[i] := List.getElem?_eq_getElem hia
          have hk := k _ (List.getElem_mem hia)
          have hrel := hcr i _ c' hca hc'
          generalize (candAV es since seen)[i] = c at *
          cases c with
          | none =>
            cases c' with
            | some m => exact hrel.elim
            | none =>
              have run' := run none w1 (.tuple #[.bool false]) hc' rfl
              refine wp_value0 (by rw [hop]; simp only [Sem.run_bind, run', Result.andThen_ok, Sem.run_pure]; rfl) ?_
              exact ⟨_, _, hk, _, _, h'.set o.dst (.of (.tup [.bool false] [.bool false] rfl (VRels.cons (.bool _) (.nil G)).2)) (by simp)⟩
          | some e =>
            cases c' with
            | none => exact hrel.elim
            | some me =>
              obtain ⟨v1, v2, v3⟩ := hrel
              have hhR : w1.heap[R]? = some (.mapIter (some M) since seen.toArray last) := by rw [hh1]; exact hh
              obtain ⟨hi', hn'⟩ := h'.inv.setObj r R _ (.iter (some m) since (seen ++ [e.2.2]) clock) (.mapIter (some M) since (seen.toArray.push me.born) clock) hr hR (by simp) (by simp) (fun c t f q => by rw [hhR] at q; cases q)
                (fun w' hw' => ⟨R, hR, some M, by rw [hw', v3]; simp, M, hM, rfl⟩)
              have run' := run (some me) _ (.tuple #[.bool true, me.key, me.val]) hc' (by simp only [Sem.run_bind, run_setObj hhR (by simp), Result.andThen_ok, Sem.run_pure]; rfl)
              refine wp_value0 (by rw [hop]; simp only [Sem.run_bind, run', Result.andThen_ok, Sem.run_pure]; rfl) ?_
              exact ⟨_, _, hk, _, _, (h'.step hn' hi').set o.dst (.of (.tup [.bool true, e.1, e.2.1] [.bool true, me.key, me.val] rfl (VRels.cons (.bool _) (.cons v1 (.cons v2 (.nil G)))).2)) (by simp)⟩
        · exact k.elim
      · exact k.elim
  · exact k.elim

theorem entry_sound (h : Rel W0 G0 w0 N G L st H ca w) {x : Operand} {x' : Opd} (hx : cOpd N x = some x') {r : AV} (hr : entryAV H (st.ev x') = some r) : Gives P G L st w (Instr.entry (ca.eval x)) r := by
  have h1 := h.opd hx
  generalize hvx : ca.eval x = vx at *
  generalize st.ev x' = a at *
  unfold entryAV at hr
  split at hr
  · rename_i i
    have h2 := h1.rel (by simp)
    cases h2 with
    | itr _ R hR =>
      split at hr
      · rename_i m since seen stepped hi
        obtain ⟨R', hR', mB, hh, M, hM, hmB⟩ := h.inv.obj i _ hi
        rw [hR] at hR'; cases hR'
        subst hmB
        split at hr
        · rename_i es clock stamp hm hlast
          obtain ⟨M', ms, hM', hhm, her⟩ := ERel.of_obj (h.inv.obj m _ hm)
          rw [hM] at hM'; cases hM'
          split at hr
          · rename_i hcl
            obtain ⟨e, he, rfl⟩ := Option.map_eq_some_iff.1 hr
            have hg : (getObj R).run P w = .ok (.mapIter (some M) since seen.toArray stepped) w := by simp [getObj, Sem.run, hh]
            have hg2 : (getObj M).run P w = .ok (.map ms.toArray clock) w := by simp [getObj, Sem.run, hhm]
            have hf : ∀ {es : List Ent} {ms : List MapEntry}, ERel G es ms → es.find? (fun e => e.2.2 == stamp) = some e → ∃ me, ms.find? (fun e => e.born == stamp) = some me ∧ VRel G e.1 me.key ∧ VRel G e.2.1 me.val := by
              intro es
              induction es with
              | nil => intro ms _ h; simp at h
              | cons e0 es ih =>
                intro ms hr h
                cases ms with
                | nil => simp [ERel] at hr
                | cons m0 ms =>
                  obtain ⟨⟨q1, q2, q3⟩, q4⟩ := hr.cons
                  simp only [List.find?_cons] at h ⊢
                  rw [← q3]
                  split at h
                  · rename_i hb
                    cases h
                    exact ⟨m0, by simp [hb], q1, q2⟩
                  · rename_i hb
                    obtain ⟨me, z1, z2⟩ := ih q4 h
                    exact ⟨me, by simp [hb, z1], z2⟩
            obtain ⟨me, hme, v1, v2⟩ := hf her he
            refine .rel (v := .tuple #[me.key, me.val]) ?_ (.tup [e.1, e.2.1] [me.key, me.val] rfl (VRels.cons v1 (.cons v2 (.nil G))).2)
            have hb : seen.toArray.back? = some stamp := by rw [List.back?_toArray]; exact hlast
            simp only [Instr.entry, Sem.run_bind, hg, Result.andThen_ok, hb, hg2]
            simp [hcl, hme]
          · cases hr
        · cases hr
      · cases hr
  · cases hr

theorem lenM_sound (h : Rel W0 G0 w0 N G L st H ca w) {t kt et : TypeId} (ht : P.underlying t = some (.map kt et)) {x : Operand} {x' : Opd} (hx : cOpd N x = some x') {ty : TypeId} {es : List Ent} (hes : mapOf H (st.ev x') = some es) :
    Gives P G L st w (Builtin.len_ #[t] ty #[ca.eval x]) (.int .i64 es.length) := by
  have h1 := h.opd hx
  generalize ca.eval x = vx at *
  generalize st.ev x' = a at *
  refine .rel ?_ (.int _ _)
  cases a <;> simp only [mapOf] at hes <;> try (cases hes; done)
  · split at hes
    · rename_i e0; cases e0; cases hes
      rw [h1.pl]
      simp [Builtin.len_, run_underlying ht, goInt]
    · rename_i e0; cases e0
    · cases hes
  · rename_i m
    split at hes
    · rename_i l c hm
      cases hes
      have h3 := h1.rel (by simp)
      cases h3 with
      | map _ B hB =>
        obtain ⟨B', ms, hB', hh, her⟩ := ERel.of_obj (h.inv.obj m _ hm)
        rw [hB] at hB'; cases hB'
        have hg : (getObj B).run P w = .ok (.map ms.toArray c) w := by simp [getObj, Sem.run, hh]
        simp [Builtin.len_, run_underlying ht, goInt, hg, her.1]
    · cases hes
end
end Go.Qa
