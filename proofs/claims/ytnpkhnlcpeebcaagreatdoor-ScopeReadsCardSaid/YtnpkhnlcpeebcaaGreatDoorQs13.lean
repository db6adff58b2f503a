/- Contracts: strings.Lines. -/
import Derived.Test.YtnpkhnlcpeebcaaGreatDoorQs12
set_option linter.all false
set_option maxRecDepth 100000
namespace Go.Proofs.YtnpkhnlcpeebcaaGreatDoor
open Go Go.Qa Go.Proofs

/-- The first line of a text, with its end; what follows. -/
def ln1 (s : List UInt8) : List UInt8 × List UInt8 := if (cutL 10 s).2.2 = true then ((cutL 10 s).1 ++ [10], (cutL 10 s).2.1) else (s, [])
theorem ln1_ix (s : List UInt8) : (0 ≤ Lib.indexByte s 10 → Lib.indexByte s 10 < s.length ∧ ln1 s = (s.take ((Lib.indexByte s 10).toNat + 1), s.drop ((Lib.indexByte s 10).toNat + 1))) ∧ (Lib.indexByte s 10 < 0 → ln1 s = (s, [])) := by
  induction s with
  | nil => simp [Lib.indexByte, ln1, cutL]
  | cons b l ih =>
    by_cases e : b = 10
    · subst e
      simp [Lib.indexByte, ln1, cutL]
    · have hb : (b == 10) = false := by simpa using e
      have hx : Lib.indexByte (b :: l) 10 = if Lib.indexByte l 10 = -1 then -1 else Lib.indexByte l 10 + 1 := by
        simp [Lib.indexByte, hb]
      have hge : -1 ≤ Lib.indexByte l 10 := by
        rcases Lib.index_spec l [10] with ⟨h1, _⟩ | ⟨i, h1, _⟩ <;> rw [Lib.index_one] at h1 <;> omega
      rw [hx]
      by_cases z : Lib.indexByte l 10 = -1
      · rw [if_pos z]
        refine ⟨fun h => by omega, fun _ => ?_⟩
        have := ih.2 (by omega)
        simp only [ln1, cutL, if_neg e] at this ⊢
        cases hc : (cutL 10 l).2.2 with
        | true =>
          rw [hc] at this
          simp only [if_true, Prod.mk.injEq] at this ⊢
          obtain ⟨a, b⟩ := this
          exact ⟨by rw [List.cons_append, a], b⟩
        | false => simp
      · rw [if_neg z]
        refine ⟨fun h => ?_, fun h => by omega⟩
        obtain ⟨h1, h2⟩ := ih.1 (by omega)
        refine ⟨by simp; omega, ?_⟩
        rw [show (Lib.indexByte l 10 + 1).toNat + 1 = ((Lib.indexByte l 10).toNat + 1) + 1 by omega]
        simp only [List.take_succ_cons, List.drop_succ_cons]
        simp only [ln1, cutL, if_neg e] at h2 ⊢
        cases hc : (cutL 10 l).2.2 with
        | true =>
          rw [hc] at h2
          simp only [if_true, Prod.mk.injEq] at h2 ⊢
          simp [← h2.1, ← h2.2]
        | false =>
          rw [hc] at h2
          simp only [Bool.false_eq_true, if_false, Prod.mk.injEq] at h2 ⊢
          simp [← h2.1, ← h2.2]
theorem ln1_len (s : List UInt8) (h : s ≠ []) : (ln1 s).2.length < s.length ∧ (ln1 s).1.length ≤ s.length := by
  have hp : 0 < s.length := List.length_pos_iff.2 h
  obtain ⟨a, b⟩ := ln1_ix s
  by_cases z : 0 ≤ Lib.indexByte s 10
  · obtain ⟨c, d⟩ := a z
    rw [d]
    simp only [List.length_drop, List.length_take]
    omega
  · rw [b (by omega)]
    simp only [List.length_nil]
    omega
theorem SYields.mono {P : Program} {W0 : World} {b : Nat} {args : List AV} {h : EH} {k k' : AV → EH → Prop} (e : SYields P W0 b args h k) (m : ∀ r h, k r h → k' r h) : SYields P W0 b args h k' := AYields.mono e fun r H' ⟨h', e1, q⟩ => ⟨h', e1, m _ _ q⟩
theorem cy_i {W0 : World} {b : Nat} {args : List AV} {h : EH} {k : AV → EH → Prop} (q : args.all AV.glob = true) (e : SYields Tryz.prog W0 b args h k) : cf W0 (.yfn b) args h k := ⟨q, e⟩
theorem c118 {W0 : World} {n b : Nat} {I : List UInt8 → EH → Prop} {s : List UInt8} {h : EH} {k : AV → EH → Prop} (h0 : I s h) (hb : ∀ s h, I s h → h.get b = some (.cells [.str s]) ∧ s.length ≤ 3000)
    (step : ∀ s h, s ≠ [] → I s h → SYields Tryz.prog W0 n [.str (ln1 s).1] (h.set b (.cells [.str (ln1 s).2])) fun r h2 => (r = .bool true ∧ I (ln1 s).2 h2) ∨ (r = .bool false ∧ k (.tup []) h2))
    (fin : ∀ h, I [] h → k (.tup []) h) : SCalls Tryz.prog W0 118 [.yfn n, .ref b 0] h k := by
  refine W118_ok ?_
  unfold W118
  refine ⟨fun m h => ∃ s, I s h ∧ m = s.length, _, ⟨s, h0, rfl⟩, ?_⟩
  rintro m h1 ⟨s, hi, rfl⟩
  obtain ⟨hg, hl⟩ := hb s h1 hi
  try simp only [go_sem, EH.n_push, EH.n_set, List.getElem?_cons_zero, List.getElem?_cons_succ, List.head?_cons, List.drop_succ_cons, List.drop_zero, List.take_succ_cons, List.take_zero, List.length_cons, List.length_nil, List.all_cons, List.all_nil, List.map_cons, List.map_nil, Nat.reduceAdd, Nat.reduceLeDiff, Nat.reduceEqDiff, Nat.reduceSub, Nat.zero_add, Nat.le_refl, Int.toNat_zero, Int.reduceToNat, Int.toNat_natCast, and_self, and_true, true_and, if_true, if_false, ↓reduceIte, Bool.and_true, Bool.and_self, Bool.true_and, Bool.false_eq_true, reduceCtorEq, AV.isSize, beq_self_eq_true, decide_true, decide_false, List.nil_append, forall_const, Bool.not_true, Bool.not_false, imp_self, true_implies, false_implies, List.getD_cons_zero, List.getD_cons_succ, Int.reduceLE, Int.reduceLT, Int.cast_ofNat_Int, bne_self_eq_false, hg]
  refine ⟨fun q => ?_, fun q => ?_⟩
  · have hne : s ≠ [] := by
      rintro rfl
      simp at q
    refine ⟨fun v h' => v = .str (ln1 s).1 ∧ h' = h1.set b (.cells [.str (ln1 s).2]), ?_, ?_⟩
    · rintro v h' ⟨rfl, rfl⟩
      refine cy_i rfl (SYields.mono (step s h1 hne hi) fun r h2 q => ?_)
      rcases q with ⟨rfl, q⟩ | ⟨rfl, q⟩
      · try simp only [go_sem, EH.n_push, EH.n_set, List.getElem?_cons_zero, List.getElem?_cons_succ, List.head?_cons, List.drop_succ_cons, List.drop_zero, List.take_succ_cons, List.take_zero, List.length_cons, List.length_nil, List.all_cons, List.all_nil, List.map_cons, List.map_nil, Nat.reduceAdd, Nat.reduceLeDiff, Nat.reduceEqDiff, Nat.reduceSub, Nat.zero_add, Nat.le_refl, Int.toNat_zero, Int.reduceToNat, Int.toNat_natCast, and_self, and_true, true_and, if_true, if_false, ↓reduceIte, Bool.and_true, Bool.and_self, Bool.true_and, Bool.false_eq_true, reduceCtorEq, AV.isSize, beq_self_eq_true, decide_true, decide_false, List.nil_append, forall_const, Bool.not_true, Bool.not_false, imp_self, true_implies, false_implies, List.getD_cons_zero, List.getD_cons_succ, Int.reduceLE, Int.reduceLT, Int.cast_ofNat_Int, bne_self_eq_false]
        exact ⟨_, (ln1_len s hne).1, _, q, rfl⟩
      · try simp only [go_sem, EH.n_push, EH.n_set, List.getElem?_cons_zero, List.getElem?_cons_succ, List.head?_cons, List.drop_succ_cons, List.drop_zero, List.take_succ_cons, List.take_zero, List.length_cons, List.length_nil, List.all_cons, List.all_nil, List.map_cons, List.map_nil, Nat.reduceAdd, Nat.reduceLeDiff, Nat.reduceEqDiff, Nat.reduceSub, Nat.zero_add, Nat.le_refl, Int.toNat_zero, Int.reduceToNat, Int.toNat_natCast, and_self, and_true, true_and, if_true, if_false, ↓reduceIte, Bool.and_true, Bool.and_self, Bool.true_and, Bool.false_eq_true, reduceCtorEq, AV.isSize, beq_self_eq_true, decide_true, decide_false, List.nil_append, forall_const, Bool.not_true, Bool.not_false, imp_self, true_implies, false_implies, List.getD_cons_zero, List.getD_cons_succ, Int.reduceLE, Int.reduceLT, Int.cast_ofNat_Int, bne_self_eq_false]
        exact q
    · refine ca_i rfl (indexByte_ok ?_)
      rw [show ((10 : Int).toNat.toUInt8) = 10 from rfl]
      obtain ⟨ha, hb'⟩ := ln1_ix s
      try simp only [go_sem, EH.n_push, EH.n_set, List.getElem?_cons_zero, List.getElem?_cons_succ, List.head?_cons, List.drop_succ_cons, List.drop_zero, List.take_succ_cons, List.take_zero, List.length_cons, List.length_nil, List.all_cons, List.all_nil, List.map_cons, List.map_nil, Nat.reduceAdd, Nat.reduceLeDiff, Nat.reduceEqDiff, Nat.reduceSub, Nat.zero_add, Nat.le_refl, Int.toNat_zero, Int.reduceToNat, Int.toNat_natCast, and_self, and_true, true_and, if_true, if_false, ↓reduceIte, Bool.and_true, Bool.and_self, Bool.true_and, Bool.false_eq_true, reduceCtorEq, AV.isSize, beq_self_eq_true, decide_true, decide_false, List.nil_append, forall_const, Bool.not_true, Bool.not_false, imp_self, true_implies, false_implies, List.getD_cons_zero, List.getD_cons_succ, Int.reduceLE, Int.reduceLT, Int.cast_ofNat_Int, bne_self_eq_false, hg]
      refine ⟨fun q => ?_, fun q => ?_⟩
      · simp only [decide_eq_true_eq] at q
        obtain ⟨a1, a2⟩ := ha q
        rw [w64 (by omega) (by omega)]
        refine ⟨⟨by omega, by omega⟩, ⟨by omega, by omega⟩, ?_⟩
        rw [show (Lib.indexByte s 10 + 1).toNat = (Lib.indexByte s 10).toNat + 1 by omega, a2]
        exact ⟨rfl, rfl⟩
      · simp only [decide_eq_false_iff_not] at q
        rw [hb' (by omega)]
        exact ⟨rfl, rfl⟩
  · have : s = [] := by
      simp only [decide_eq_false_iff_not] at q
      cases s with
      | nil => rfl
      | cons a l => simp at q
    subst this
    exact fin _ hi
end Go.Proofs.YtnpkhnlcpeebcaaGreatDoor
/- The program's reader of module files: what it computes is what the document's computes; boxes of results. -/
set_option maxRecDepth 100000
namespace Go.Proofs.YtnpkhnlcpeebcaaGreatDoor
open Go Go.Qa Go.Proofs

/-- It is empty, or a newline ends it. -/
def EndsNl (s : List UInt8) : Prop := s = [] ∨ ∃ l, s = l ++ [10]
theorem ends_app {a r : List UInt8} (h : r ≠ []) : EndsNl (a ++ 10 :: r) ↔ EndsNl r := by
  obtain ⟨r', x, rfl⟩ : ∃ r' x, r = r' ++ [x] := ⟨r.dropLast, r.getLast h, (List.dropLast_concat_getLast h).symm⟩
  have e0 : a ++ 10 :: (r' ++ [x]) = (a ++ 10 :: r') ++ [x] := by simp
  rw [e0]
  constructor
  · rintro (e | ⟨l, e⟩)
    · simp at e
    · have := List.append_inj_right' e rfl
      cases this
      exact .inr ⟨r', rfl⟩
  · rintro (e | ⟨l, e⟩)
    · simp at e
    · have := List.append_inj_right' e rfl
      cases this
      exact .inr ⟨_, rfl⟩
def lastL (l : List (List UInt8)) : List UInt8 := l.getD (l.length - 1) []
theorem lastL_cons {a : List UInt8} {l : List (List UInt8)} (h : l ≠ []) : lastL (a :: l) = lastL l := by
  cases l with
  | nil => exact absurd rfl h
  | cons b r => simp [lastL]
theorem cutL_eq (c : UInt8) : ∀ s, (cutL c s).2.2 = true → s = (cutL c s).1 ++ c :: (cutL c s).2.1
  | [], h => by simp [cutL] at h
  | b :: l, h => by
    by_cases e : b = c
    · simp [cutL, e]
    · simp only [cutL, if_neg e] at h ⊢
      rw [List.cons_append, ← cutL_eq c l h]
theorem cutL_mem' (c : UInt8) : ∀ s, c ∈ s → (cutL c s).2.2 = true
  | [], h => by simp at h
  | b :: l, h => by
    by_cases e : b = c
    · simp [cutL, e]
    · simp only [cutL, if_neg e]
      exact cutL_mem' c l (by rcases List.mem_cons.1 h with h | h; exact absurd h.symm e; exact h)
theorem spl_ne (c : UInt8) (s : List UInt8) : spl c s ≠ [] := fun e => by have := spl_len1 c s; rw [e] at this; simp at this
/-- A step from line to line. -/
theorem line_step {s : List UInt8} (h : s ≠ []) (e : EndsNl s) : ln1 s = ((cutL 10 s).1 ++ [10], (cutL 10 s).2.1) ∧ EndsNl (cutL 10 s).2.1 ∧ (spl 10 s).dropLast = (cutL 10 s).1 :: (spl 10 (cutL 10 s).2.1).dropLast ∧ (cutL 10 s).2.1.length < s.length := by
  have hl : (10 : UInt8) ∈ s := by
    rcases e with e | ⟨l, rfl⟩
    · exact absurd e h
    · simp
  have hc := cutL_mem' 10 s hl
  have heq := cutL_eq 10 s hc
  refine ⟨by simp only [ln1, hc, if_true], ?_, ?_, ?_⟩
  · by_cases z : (cutL 10 s).2.1 = []
    · exact .inl z
    · rw [heq] at e
      exact (ends_app z).1 e
  · rw [cutL_spl, hc, if_pos rfl]
    exact List.dropLast_cons_of_ne_nil (spl_ne _ _)
  · have := congrArg List.length heq
    simp only [List.length_append, List.length_cons] at this
    omega
theorem trim_nl (a : List UInt8) : Lib.trimSuffix (a ++ [10]) [10] = a := by
  unfold Lib.trimSuffix
  have : Lib.hasSuffix (a ++ [10]) [10] = true := by simp [Lib.hasSuffix]
  rw [this]
  simp
theorem suf_nl (s : List UInt8) (h : s ≠ []) : List.isSuffixOf [10] s = true ↔ EndsNl s := by
  rw [List.isSuffixOf_iff_suffix]
  unfold EndsNl
  constructor
  · rintro ⟨t, rfl⟩; exact .inr ⟨t, rfl⟩
  · rintro (e | ⟨l, rfl⟩)
    · exact absurd e h
    · exact ⟨l, rfl⟩
theorem last_nl : ∀ s : List UInt8, lastL (spl 10 s) = [] ↔ EndsNl s := by
  intro s
  induction hn : s.length using Nat.strongRecOn generalizing s with
  | _ n ih =>
    by_cases z : s = []
    · subst z; simp [spl, EndsNl, lastL]
    · cases hc : (cutL 10 s).2.2 with
      | false =>
        rw [cutL_spl, hc]
        have := (cutL_not 10 s hc).1
        rw [this]
        simp only [Bool.false_eq_true, if_false]
        show s = [] ↔ _
        refine ⟨fun e => .inl e, fun e => ?_⟩
        rcases e with e | ⟨l, rfl⟩
        · exact e
        · have := cutL_mem' 10 (l ++ [10]) (by simp)
          rw [hc] at this; cases this
      | true =>
        have heq := cutL_eq 10 s hc
        have hl : (cutL 10 s).2.1.length < s.length := by
          have := congrArg List.length heq
          simp only [List.length_append, List.length_cons] at this
          omega
        have h1 := ih _ (by omega) (cutL 10 s).2.1 rfl
        rw [cutL_spl, hc, if_pos rfl, lastL_cons (spl_ne _ _), h1]
        by_cases q : (cutL 10 s).2.1 = []
        · refine ⟨fun _ => .inr ⟨(cutL 10 s).1, ?_⟩, fun _ => .inl q⟩
          rw [q] at heq
          exact heq
        · have := ends_app (a := (cutL 10 s).1) q
          rw [← heq] at this
          exact this.symm
/-- What a module file says, as the program reads it. -/
def readP (t : List UInt8) : Option (List UInt8 × Int × List (List UInt8) × List Ent) :=
  if (cutL 10 t).2.2 = false then none else
  match spl 32 (cutL 10 t).1 with
  | [a, m, n] => if a = modW ∧ isNm m = true then
      match numS n 65521 with
      | some v => if v = ver 0 0 (cutL 10 t).2.1 ∧ List.isSuffixOf [10] (cutL 10 t).2.1 = true ∨ v = ver 0 0 (cutL 10 t).2.1 ∧ (cutL 10 t).2.1 = [] then
          match rdL (spl 10 (cutL 10 t).2.1).dropLast [] [] with
          | some (ns, es) => some (m, v, ns, es)
          | none => none
        else none
      | none => none
    else none
  | _ => none
theorem numS_ver {n : List UInt8} {u : Int} (h : 0 ≤ u ∧ u < 65521) : (n = Lib.itoa u → numS n 65521 = some u) ∧ (∀ v, numS n 65521 = some v → n = Lib.itoa v) := by
  constructor
  · rintro rfl
    obtain ⟨m, rfl⟩ : ∃ m : Nat, u = m := ⟨u.toNat, by omega⟩
    obtain ⟨a, b⟩ := atoiN_itoa m (by omega)
    unfold numS
    rw [a, b, if_pos]
    simp
    omega
  · intro v hv
    unfold numS at hv
    split at hv
    · rename_i q
      simp only [Bool.and_eq_true, beq_iff_eq] at q
      cases hv
      exact q.1.1.2.symm
    · cases hv
theorem readP_eq (t : List UInt8) : readP t = readS t := by
  unfold readP readS
  cases hc : (cutL 10 t).2.2 with
  | false =>
    have : spl 10 t = [(cutL 10 t).1] := by rw [cutL_spl, hc]; rfl
    rw [this]
    simp
  | true =>
    have hs : spl 10 t = (cutL 10 t).1 :: spl 10 (cutL 10 t).2.1 := by rw [cutL_spl, hc]; rfl
    have heq := cutL_eq 10 t hc
    have hd : t.drop ((cutL 10 t).1.length + 1) = (cutL 10 t).2.1 := by
      generalize (cutL 10 t).1 = a at heq ⊢
      generalize (cutL 10 t).2.1 = r at heq ⊢
      rw [heq]
      simp
    have hl1 := spl_len1 10 (cutL 10 t).2.1
    have hlast : (spl 10 t).getD ((spl 10 t).length - 1) [] = lastL (spl 10 (cutL 10 t).2.1) := by
      rw [hs]
      exact lastL_cons (spl_ne _ _)
    have hdl : ((spl 10 t).take ((spl 10 t).length - 1)).drop 1 = (spl 10 (cutL 10 t).2.1).dropLast := by
      rw [← List.dropLast_eq_take, hs, List.dropLast_cons_of_ne_nil (spl_ne _ _)]
      rfl
    have h0 : (spl 10 t).getD 0 [] = (cutL 10 t).1 := by rw [hs]; rfl
    rw [hlast, hdl, h0, hd]
    have hlen : ((spl 10 t).length : Int) = (spl 10 (cutL 10 t).2.1).length + 1 := by rw [hs]; simp
    have hend := last_nl (cutL 10 t).2.1
    have hb := ver_bounds (cutL 10 t).2.1 0 0 (by omega)
    generalize (cutL 10 t).2.1 = r at *
    generalize (cutL 10 t).1 = f at *
    have hE : (List.isSuffixOf [10] r = true ∨ r = []) ↔ EndsNl r := by
      by_cases z : r = []
      · subst z; simp [EndsNl]
      · rw [suf_nl r z]
        exact ⟨fun e => by rcases e with e | e; exact e; exact absurd e z, .inl⟩
    simp only [Bool.true_eq_false, if_false]
    by_cases he : EndsNl r
    · rw [if_neg (by rw [hend.2 he]; simp; omega)]
      have hE' : ∀ v, (v = ver 0 0 r ∧ List.isSuffixOf [10] r = true ∨ v = ver 0 0 r ∧ r = []) ↔ v = ver 0 0 r := fun v => by
        rw [← and_or_left, hE]
        exact ⟨fun h => h.1, fun h => ⟨h, he⟩⟩
      refine threeW (spl 32 f) (fun a m n e => ?_) (fun e => ?_)
      · rw [e]
        simp only
        obtain ⟨n1, n2⟩ := numS_ver (n := n) hb
        by_cases q : a = modW ∧ isNm m = true
        · rw [if_pos q]
          by_cases z : n = Lib.itoa (ver 0 0 r)
          · rw [n1 z, if_pos ⟨q.1, q.2, z⟩]
            exact if_pos ((hE' _).2 rfl)
          · rw [if_neg (fun h => z h.2.2)]
            cases hn : numS n 65521 with
            | none => rfl
            | some v =>
              simp only [hE']
              rw [if_neg]
              rintro rfl
              exact z (n2 _ hn)
        · rw [if_neg q, if_neg (fun h => q ⟨h.1, h.2.1⟩)]
      · split
        · rename_i h; rw [h] at e; exact absurd rfl e
        · split
          · rename_i h; rw [h] at e; exact absurd rfl e
          · rfl
    · rw [if_pos (.inr (fun h => he (hend.1 h)))]
      split
      · split
        · split
          · rw [if_neg]
            rintro (h | h)
            · exact he (hE.1 (.inl h.2))
            · exact he (hE.1 (.inr h.2))
          · rfl
        · rfl
      · rfl

/-! ### Five boxes of results -/
def B5 (h : EH) (b : Nat) (y1 y2 y3 y4 y5 : AV) : Prop := h.get b = some (.cells [y1]) ∧ h.get (b + 1) = some (.cells [y2]) ∧ h.get (b + 1 + 1) = some (.cells [y3]) ∧ h.get (b + 1 + 1 + 1) = some (.cells [y4]) ∧ h.get (b + 1 + 1 + 1 + 1) = some (.cells [y5])
/-- Outside of the boxes nothing changes. -/
def Out5 (b : Nat) (h h' : EH) : Prop := h'.n = h.n ∧ ∀ i, (i < b ∨ b + 5 ≤ i) → h'.get i = h.get i
theorem Out5.refl (b : Nat) (h : EH) : Out5 b h h := ⟨rfl, fun _ _ => rfl⟩
theorem Out5.trans {b : Nat} {h h1 h2 : EH} (x : Out5 b h h1) (y : Out5 b h1 h2) : Out5 b h h2 := ⟨by rw [y.1, x.1], fun i q => by rw [y.2 i q, x.2 i q]⟩
theorem Out5.ext {b : Nat} {h0 h h1 : EH} (x : Out5 b h h1) (l : h0.n ≤ b) (e : Ext h0 h) : Ext h0 h1 := ⟨by rw [x.1]; exact e.1, fun i q => by rw [x.2 i (.inl (by omega)), e.2 i q]⟩
section
variable {h : EH} {b : Nat} {y1 y2 y3 y4 y5 v : AV} {k : AV → EH → Prop} {K : AV → Prop}
theorem B5.l1 (g : B5 h b y1 y2 y3 y4 y5) : ld h (.ref b 0) K = K y1 := by rw [ld_ref, g.1]; rfl
theorem B5.l2 (g : B5 h b y1 y2 y3 y4 y5) : ld h (.ref (b + 1) 0) K = K y2 := by rw [ld_ref, g.2.1]; rfl
theorem B5.l3 (g : B5 h b y1 y2 y3 y4 y5) : ld h (.ref (b + 1 + 1) 0) K = K y3 := by rw [ld_ref, g.2.2.1]; rfl
theorem B5.l4 (g : B5 h b y1 y2 y3 y4 y5) : ld h (.ref (b + 1 + 1 + 1) 0) K = K y4 := by rw [ld_ref, g.2.2.2.1]; rfl
theorem B5.l5 (g : B5 h b y1 y2 y3 y4 y5) : ld h (.ref (b + 1 + 1 + 1 + 1) 0) K = K y5 := by rw [ld_ref, g.2.2.2.2]; rfl
theorem B5.lt (g : B5 h b y1 y2 y3 y4 y5) : b + 4 < h.n := EH.get_lt g.2.2.2.2
theorem B5.of (g : B5 h b y1 y2 y3 y4 y5) {h' : EH} (e : ∀ i, b ≤ i → i < b + 5 → h'.get i = h.get i) : B5 h' b y1 y2 y3 y4 y5 := ⟨by rw [e _ (by omega) (by omega)]; exact g.1, by rw [e _ (by omega) (by omega)]; exact g.2.1, by rw [e _ (by omega) (by omega)]; exact g.2.2.1, by rw [e _ (by omega) (by omega)]; exact g.2.2.2.1, by rw [e _ (by omega) (by omega)]; exact g.2.2.2.2⟩
theorem B5.ext (g : B5 h b y1 y2 y3 y4 y5) {h' : EH} (e : Ext h h') : B5 h' b y1 y2 y3 y4 y5 := ⟨e.get g.1, e.get g.2.1, e.get g.2.2.1, e.get g.2.2.2.1, e.get g.2.2.2.2⟩
theorem st1 {c : Nat} {y : AV} (g : h.get c = some (.cells [y])) (q : v.cells? = some [v]) (hk : k (.pl undef) (h.set c (.cells [v]))) : st 1 (.ref c 0) v h k := by
  rw [st_ref, g, stc_some, q]
  exact ⟨⟨rfl, by simp⟩, by simpa [over] using hk⟩
theorem out_set {c : Nat} (x : AObj) (hc : b ≤ c) (hc2 : c < b + 5) : Out5 b h (h.set c x) := ⟨EH.n_set _ _ _, fun i q => get_set_ne (by omega)⟩
theorem B5.s1 (g : B5 h b y1 y2 y3 y4 y5) (q : v.cells? = some [v]) (hk : ∀ h', B5 h' b v y2 y3 y4 y5 → Out5 b h h' → k (.pl undef) h') : st 1 (.ref b 0) v h k :=
  st1 g.1 q (hk _ ⟨get_set_eq rfl (by have := g.lt; omega), by rw [get_set_ne (by omega)]; exact g.2.1, by rw [get_set_ne (by omega)]; exact g.2.2.1, by rw [get_set_ne (by omega)]; exact g.2.2.2.1, by rw [get_set_ne (by omega)]; exact g.2.2.2.2⟩ (out_set _ (by omega) (by omega)))
theorem B5.s2 (g : B5 h b y1 y2 y3 y4 y5) (q : v.cells? = some [v]) (hk : ∀ h', B5 h' b y1 v y3 y4 y5 → Out5 b h h' → k (.pl undef) h') : st 1 (.ref (b + 1) 0) v h k :=
  st1 g.2.1 q (hk _ ⟨by rw [get_set_ne (by omega)]; exact g.1, get_set_eq rfl (by have := g.lt; omega), by rw [get_set_ne (by omega)]; exact g.2.2.1, by rw [get_set_ne (by omega)]; exact g.2.2.2.1, by rw [get_set_ne (by omega)]; exact g.2.2.2.2⟩ (out_set _ (by omega) (by omega)))
theorem B5.s3 (g : B5 h b y1 y2 y3 y4 y5) (q : v.cells? = some [v]) (hk : ∀ h', B5 h' b y1 y2 v y4 y5 → Out5 b h h' → k (.pl undef) h') : st 1 (.ref (b + 1 + 1) 0) v h k :=
  st1 g.2.2.1 q (hk _ ⟨by rw [get_set_ne (by omega)]; exact g.1, by rw [get_set_ne (by omega)]; exact g.2.1, get_set_eq rfl (by have := g.lt; omega), by rw [get_set_ne (by omega)]; exact g.2.2.2.1, by rw [get_set_ne (by omega)]; exact g.2.2.2.2⟩ (out_set _ (by omega) (by omega)))
theorem B5.s4 (g : B5 h b y1 y2 y3 y4 y5) (q : v.cells? = some [v]) (hk : ∀ h', B5 h' b y1 y2 y3 v y5 → Out5 b h h' → k (.pl undef) h') : st 1 (.ref (b + 1 + 1 + 1) 0) v h k :=
  st1 g.2.2.2.1 q (hk _ ⟨by rw [get_set_ne (by omega)]; exact g.1, by rw [get_set_ne (by omega)]; exact g.2.1, by rw [get_set_ne (by omega)]; exact g.2.2.1, get_set_eq rfl (by have := g.lt; omega), by rw [get_set_ne (by omega)]; exact g.2.2.2.2⟩ (out_set _ (by omega) (by omega)))
theorem B5.s5 (g : B5 h b y1 y2 y3 y4 y5) (q : v.cells? = some [v]) (hk : ∀ h', B5 h' b y1 y2 y3 y4 v → Out5 b h h' → k (.pl undef) h') : st 1 (.ref (b + 1 + 1 + 1 + 1) 0) v h k :=
  st1 g.2.2.2.2 q (hk _ ⟨by rw [get_set_ne (by omega)]; exact g.1, by rw [get_set_ne (by omega)]; exact g.2.1, by rw [get_set_ne (by omega)]; exact g.2.2.1, by rw [get_set_ne (by omega)]; exact g.2.2.2.1, get_set_eq rfl (by have := g.lt; omega)⟩ (out_set _ (by omega) (by omega)))
/-- The five boxes are answered. -/
theorem B5.ret (g : B5 h b y1 y2 y3 y4 y5) (hk : k (.tup [y1, y2, y3, y4, y5]) h) : retW [.c none (.ref b 0), .c none (.ref (b + 1) 0), .c none (.ref (b + 1 + 1) 0), .c none (.ref (b + 1 + 1 + 1) 0), .c none (.ref (b + 1 + 1 + 1 + 1) 0)] h k := by
  rw [retW_two, rvsP_cons, rvP_c, g.l1, rvsP_cons, rvP_c, g.l2, rvsP_cons, rvP_c, g.l3, rvsP_cons, rvP_c, g.l4, rvsP_cons, rvP_c, g.l5, rvsP_nil]
  exact hk
end
theorem rg_i {W0 : World} {g : Nat} {first capt ss : List AV} {ps : List Nat} {asg body : Code} {h : EH} {Qn Qr : EH → Prop} (q : (first ++ capt).all AV.glob = true) (e : ∀ o, o = AObj.loop false ss ps asg body none → SCalls Tryz.prog W0 g (first ++ .yfn h.n :: capt) (h.push o) fun _ h' => outW h.n Qn Qr h') : rg Tryz.prog W0 (.fn (.func g) first capt) ss ps asg body h Qn Qr := ⟨q, e _ rfl⟩
theorem out_n {b : Nat} {Qn Qr : EH → Prop} {h : EH} {ss : List AV} {ps : List Nat} {asg body : Code} (g : h.get b = some (.loop false ss ps asg body none)) : outW b Qn Qr h = Qn (h.set b .dead) := by unfold outW; rw [g]
theorem out_r {b : Nat} {Qn Qr : EH → Prop} {h : EH} {ss : List AV} {ps : List Nat} {asg body : Code} (g : h.get b = some (.loop false ss ps asg body (some .ret))) : outW b Qn Qr h = Qr (h.set b .dead) := by unfold outW; rw [g]
theorem rb_i {b : Nat} {k : EH → Prop} {h : EH} {ss : List AV} {ps : List Nat} {asg body : Code} (g : h.get b = some (.loop false ss ps asg body none)) : rbW b h k = k (h.set b (.loop true ss ps asg body none)) := by unfold rbW; rw [g]
theorem rn_i {b : Nat} {k : AV → EH → Prop} {h : EH} {ss : List AV} {ps : List Nat} {asg body : Code} (g : h.get b = some (.loop true ss ps asg body none)) : rnW b h k = k (.bool true) (h.set b (.loop false ss ps asg body none)) := by unfold rnW; rw [g]
theorem rr_i {b : Nat} {k : AV → EH → Prop} {h : EH} {ss : List AV} {ps : List Nat} {asg body : Code} (g : h.get b = some (.loop true ss ps asg body none)) : rrW b h k = k (.bool false) (h.set b (.loop false ss ps asg body (some .ret))) := by unfold rrW; rw [g]
theorem hide_ref (b o : Nat) : AV.hide (.ref b o) = .ref b o := rfl
theorem c51 {W0 : World} {s : List UInt8} {h : EH} {k : AV → EH → Prop} (hk : k (.fn (.func 118) [] [.ref h.n 0]) (h.push (.cells [.str s]))) : SCalls Tryz.prog W0 51 [.str s] h k := by
  refine W51_ok ?_
  unfold W51
  try simp only [go_sem, EH.n_push, EH.n_set, List.getElem?_cons_zero, List.getElem?_cons_succ, List.head?_cons, List.drop_succ_cons, List.drop_zero, List.take_succ_cons, List.take_zero, List.length_cons, List.length_nil, List.all_cons, List.all_nil, List.map_cons, List.map_nil, Nat.reduceAdd, Nat.reduceLeDiff, Nat.reduceEqDiff, Nat.reduceSub, Nat.zero_add, Nat.le_refl, Int.toNat_zero, Int.reduceToNat, Int.toNat_natCast, and_self, and_true, true_and, if_true, if_false, ↓reduceIte, Bool.and_true, Bool.and_self, Bool.true_and, Bool.false_eq_true, reduceCtorEq, AV.isSize, beq_self_eq_true, decide_true, decide_false, List.nil_append, forall_const, Bool.not_true, Bool.not_false, imp_self, true_implies, false_implies, List.getD_cons_zero, List.getD_cons_succ, Int.reduceLE, Int.reduceLT, Int.cast_ofNat_Int, bne_self_eq_false]
  exact hk
end Go.Proofs.YtnpkhnlcpeebcaaGreatDoor
