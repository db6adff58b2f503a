/- The abstract machine: functions of the library that are known by their contracts: joined strings, copied maps. -/
import Derived.Test.YtanfmlmcddanjaaGreatDoorRQaEvF
import Derived.Lib.Join
set_option linter.all false
namespace Go.Qa
open Go Go.RowKit

def strsOf : List AV → Option (List (List UInt8))
  | [] => some []
  | .str s :: r => match strsOf r with
    | some l => some (s :: l)
    | none => none
  | _ => none
theorem strsOf_eq : ∀ {es : List AV} {l : List (List UInt8)}, strsOf es = some l → es = l.map .str
  | [], l, e => by cases e; rfl
  | x :: r, l, e => by
    cases x <;> simp only [strsOf] at e <;> try (cases e; done)
    split at e
    · rename_i l' hl
      cases e
      rw [strsOf_eq hl]; rfl
    · cases e
def joinT (sep : List UInt8) : List (List UInt8) → List UInt8
  | [] => []
  | x :: r => sep ++ (x ++ joinT sep r)
def joinB (sep : List UInt8) : List (List UInt8) → List UInt8
  | [] => []
  | x :: r => x ++ joinT sep r
theorem joinT_eq (sep : List UInt8) : ∀ l, joinT sep l = Lib.joinTail sep l
  | [] => rfl
  | x :: r => by
    simp only [joinT, joinT_eq sep r, Lib.joinTail, List.map_cons, List.flatten_cons, List.append_assoc]
theorem joinB_eq (sep : List UInt8) (l : List (List UInt8)) : joinB sep l = Lib.join l sep := by
  cases l with
  | nil => rfl
  | cons x r => rw [Lib.join_cons, ← joinT_eq]; rfl

/-- The world went on in blocks of its own. -/
theorem frame_below {W0 : World} {H : AHeap} {G : Ghost} {w w' : World} (h : HInv W0 H G w) (hb : Below w.heap.size w w') : HInv W0 H G w' ∧ Next G w G w' :=
  ⟨h.frame (h.base.trans (hb.mono h.base.size)) hb.size fun B n q => hb.block B (h.lt B n q).2, ⟨.refl G, hb.size, fun B hB _ => hb.block B hB, fun _ _ q => .inl q⟩⟩

noncomputable def joinP (args : List AV) (h : EH) : Option (AV × EH) :=
  match args with
  | [.row _ _ _ es, .str sep] => match strsOf es with
    | some l => sel (Nat.ble l.length 140737488355328 && Nat.ble (joinB sep l).length 140737488355328) (some (.str (joinB sep l), h)) none
    | none => none
  | [.pl (.slice none 0 0), .str sep] => some (.str [], h)
  | _ => none
theorem joinP_ok {P : Program} {W0 : World} {f : FuncId} (hE : Enters P f)
    (h0 : ∀ (a : Option Addr) (c : Nat) (sep : ByteArray) (w : World), Calls P f #[.slice a 0 c, .string sep] w fun e w' => e = .returned (.string ⟨#[]⟩) ∧ w' = w)
    (hj : ∀ (bk o c : Nat) (xs : List ByteArray) (sep : ByteArray) (w : World), (∀ (j : Nat) x, xs[j]? = some x → w.cell? ⟨bk, o + j, none⟩ = some (.string x)) → bk < w.heap.size → xs.length ≤ 140737488355328 → xs.length ≤ c → (Lib.join (xs.map (·.data.toList)) sep.data.toList).length ≤ 140737488355328 →
      Calls P f #[.slice (some ⟨bk, o, none⟩) xs.length c, .string sep] w fun e w' => e = .returned (.string ⟨(Lib.join (xs.map (·.data.toList)) sep.data.toList).toArray⟩) ∧ Below w.heap.size w w')
    (args : List AV) (h : EH) (r : AV) (h' : EH) (e : joinP args h = some (r, h')) : ACalls P W0 f args h.list fun r' H' => r' = r ∧ H' = h'.list := by
  refine ⟨hE, fun G w vs hi hv => ?_⟩
  have none' : ∀ (a : Option Addr) (c : Nat) (sep : List UInt8), vs = [.slice a 0 c, .string ⟨sep.toArray⟩] → r = .str [] → h' = h →
      Calls P f vs.toArray w fun e w' => ∃ v r' H' G', e = .returned v ∧ (r' = r ∧ H' = h'.list) ∧ Next G w G' w' ∧ HInv W0 H' G' w' ∧ VRel G' r' v := by
    rintro a c sep rfl rfl rfl
    refine (h0 a c ⟨sep.toArray⟩ w).mono fun e w' ⟨e1, e2⟩ => ?_
    subst e2
    exact ⟨_, _, _, G, e1, ⟨rfl, rfl⟩, .refl G _, hi, .str [] (by simp)⟩
  unfold joinP at e
  split at e
  · rename_i own full esz es sep
    split at e
    · rename_i l hl
      obtain ⟨q, e⟩ := sel_some e
      simp only [Bool.and_eq_true, Nat.ble_eq] at q
      cases e
      have hes := strsOf_eq hl
      obtain ⟨v1, vs1, rfl, r1, hv1⟩ := hv.head
      obtain ⟨v2, vs2, rfl, r2, hv2⟩ := hv1.head
      have := hv2.eq_nil
      subst this
      cases r2
      cases r1 with
      | row _ _ _ _ a cap cv hs he hm hvv hc hx hf ho =>
        by_cases hz : es.length = 0
        · have hl0 : l = [] := by rw [hes] at hz; simpa using hz
          subst hl0
          exact none' (some a) cap sep (by rw [hz]) rfl rfl
        · have hlen : es.length = l.length := by rw [hes]; simp
          have hsp := hs (by omega)
          have hget : ∀ i, i < l.length → es.getD i .any = .str (l.getD i []) := by
            intro i hi
            rw [hes, List.getD_eq_getElem?_getD, List.getD_eq_getElem?_getD]
            simp [hi]
          have hesz : esz = 1 := by
            obtain ⟨cs, h1, h2⟩ := he 0 (by omega)
            rw [hget 0 (by omega)] at h1
            simp [AV.cells?, AV.one] at h1
            rw [← h2, ← h1]; rfl
          subst hesz
          have hcv : ∀ i, i < l.length → cv i 0 = .string (bs (l.getD i [])) := by
            intro i hi
            have := hvv i 0 (by omega) (by omega)
            rw [hget i hi] at this
            simp [AV.cells, AV.cells?, AV.one] at this
            generalize cv i 0 = z at this
            cases this; rfl
          have ea : a = ⟨a.block, a.off, none⟩ := by cases a; simp_all
          have hcell : ∀ (j : Nat) x, (l.map bs)[j]? = some x → w.cell? ⟨a.block, a.off + j, none⟩ = some (.string x) := by
            intro j x hjx
            have hjl : j < l.length := by have := (List.getElem?_eq_some_iff.1 hjx).1; simpa using this
            have h1 := (hi.imm _ _ _ (hm j 0 (by omega) (by omega))).2
            rw [hcv j hjl] at h1
            simp only [Nat.mul_one, Nat.add_zero] at h1
            rw [h1]
            simp [List.getElem?_eq_getElem hjl] at hjx
            rw [List.getD_eq_getElem?_getD, List.getElem?_eq_getElem hjl]
            simp [hjx]
          have hbk : a.block < w.heap.size := by
            exact hi.immLt (hm 0 0 (by omega) (by omega))
          have emap : (l.map bs).map (·.data.toList) = l := by
            rw [List.map_map]
            conv => rhs; rw [← List.map_id l]
            apply List.map_congr_left
            intro x _
            simp [bs_data]
          have hjj := hj a.block a.off cap (l.map bs) ⟨sep.toArray⟩ w hcell hbk (by simpa using q.1) (by simp; omega) (by rw [emap]; simpa [← joinB_eq] using q.2)
          rw [emap] at hjj
          rw [List.length_map, ← hlen, ← ea] at hjj
          refine hjj.mono fun e w' ⟨e1, e2⟩ => ?_
          obtain ⟨f1, f2⟩ := frame_below hi e2
          refine ⟨_, _, _, G, e1, ⟨rfl, rfl⟩, f2, f1, ?_⟩
          simp only [← joinB_eq]
          exact .str _ (by have := q.2; unfold maxLen; omega)
    · cases e
  · rename_i sep
    cases e
    obtain ⟨v1, vs1, rfl, r1, hv1⟩ := hv.head
    obtain ⟨v2, vs2, rfl, r2, hv2⟩ := hv1.head
    have := hv2.eq_nil
    subst this
    cases r2
    cases r1
    exact none' none 0 sep rfl rfl rfl
  · cases e

/-- A map's copy. -/
noncomputable def cloneP (args : List AV) (h : EH) : Option (AV × EH) :=
  match args with
  | [.map m] => match h.get m with
    | some (.map es c) => some (.map h.n, h.push (.map es c))
    | _ => none
  | [.pl (.map none)] => some (.pl (.map none), h)
  | _ => none
theorem cloneP_ok {P : Program} {W0 : World} {f : FuncId} (hE : Enters P f)
    (h0 : ∀ w, Calls P f #[.map none] w fun e w' => e = .returned (.map none) ∧ w' = w)
    (hc : ∀ (b : Nat) (es : Array MapEntry) (clock : Nat) (w : World), w.heap[b]? = some (.map es clock) → Calls P f #[.map (some b)] w fun e w' => e = .returned (.map (some w.heap.size)) ∧ w' = w.alloc (.map es clock))
    (args : List AV) (h : EH) (r : AV) (h' : EH) (e : cloneP args h = some (r, h')) : ACalls P W0 f args h.list fun r' H' => r' = r ∧ H' = h'.list := by
  refine ⟨hE, fun G w vs hi hv => ?_⟩
  unfold cloneP at e
  split at e
  · rename_i m
    split at e
    · rename_i es c hm
      cases e
      obtain ⟨v1, vs1, rfl, r1, hv1⟩ := hv.head
      have := hv1.eq_nil
      subst this
      cases r1 with
      | map _ B hB =>
        obtain ⟨B', ms, hB', hh, hl, hms⟩ := hi.obj m _ (by rw [EH.get_list]; exact hm)
        rw [hB] at hB'; cases hB'
        refine (hc B ms c w hh).mono fun e w' ⟨e1, e2⟩ => ?_
        subst e2
        have hle := hi.addB_le (G := G) 0
        have hiv := hi.addB (.map es c) (.map ms c) 0 (by simp) ⟨w.heap.size, ms, by simp [Ghost.addB], heap_push_new, hl, fun j hj => by
          obtain ⟨e, m, a, b, d, f, g⟩ := hms j hj
          exact ⟨e, m, a, b, d.mono hle, f.mono hle, g⟩⟩
        refine ⟨_, _, _, _, e1, ⟨rfl, by rw [EH.push_list]⟩, hi.addB_next _ 0, hiv, ?_⟩
        refine .map _ _ ?_
        simp only [Ghost.addB, EH.length_list, if_true]
    · cases e
  · cases e
    obtain ⟨v1, vs1, rfl, r1, hv1⟩ := hv.head
    have := hv1.eq_nil
    subst this
    cases r1
    refine (h0 w).mono fun e w' ⟨e1, e2⟩ => ?_
    subst e2
    exact ⟨_, _, _, G, e1, ⟨rfl, rfl⟩, .refl G _, hi, .pl _⟩
  · cases e
end Go.Qa
