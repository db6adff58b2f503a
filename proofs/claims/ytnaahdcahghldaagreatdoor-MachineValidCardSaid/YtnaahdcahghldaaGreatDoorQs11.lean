/- The abstract machine: calls that were reckoned at a whole heap, and known from then on at that heap. -/
import Derived.Test.YtnaahdcahghldaaGreatDoorQs10
set_option linter.all false
namespace Go.Qa
open Go Go.RowKit

/-- The same value, part by part. -/
def fnSame : Fn → Fn → Bool
  | .func a, .func b => Nat.beq a b
  | _, _ => false
theorem fnSame_eq {x y : Fn} (e : fnSame x y = true) : x = y := by
  unfold fnSame at e
  split at e
  · rw [Nat.beq_eq] at e; rw [e]
  · cases e
def sameX : Nat → AV → AV → Bool
  | 0, _, _ => false
  | n + 1, x, y => match x, y with
    | .any, .any => true
    | .int k a, .int k' b => decide (k = k') && decide (a = b)
    | .bool a, .bool b => a == b
    | .str a, .str b => a == b
    | .pl a, .pl b => plSame a b
    | .ref a b, .ref c d => Nat.beq a c && Nat.beq b d
    | .eref a, .eref b => sameL (sameX n) a b
    | .row o f e es, .row o' f' e' es' => ownSame o o' && f == f' && Nat.beq e e' && sameL (sameX n) es es'
    | .arr a b c d, .arr a' b' c' d' => Nat.beq a a' && Nat.beq b b' && Nat.beq c c' && Nat.beq d d'
    | .map a, .map b => Nat.beq a b
    | .itr a, .itr b => Nat.beq a b
    | .yfn a, .yfn b => Nat.beq a b
    | .fn f a b, .fn f' a' b' => fnSame f f' && sameL (sameX n) a a' && sameL (sameX n) b b'
    | .iface t a, .iface t' b => Nat.beq t t' && sameX n a b
    | .agg a, .agg b => sameL (sameX n) a b
    | .tup a, .tup b => sameL (sameX n) a b
    | _, _ => false
theorem sameX_eq : ∀ (n : Nat) (x y : AV), sameX n x y = true → x = y
  | 0, _, _, e => by cases e
  | n + 1, x, y, e => by
    have ih := sameL_eq (sameX_eq n)
    unfold sameX at e
    split at e
    · rfl
    · simp only [Bool.and_eq_true, decide_eq_true_eq] at e; rw [e.1, e.2]
    · rw [beq_iff_eq] at e; rw [e]
    · rw [beq_iff_eq] at e; rw [e]
    · rw [plSame_eq e]
    · simp only [Bool.and_eq_true, Nat.beq_eq] at e; rw [e.1, e.2]
    · rw [ih _ _ e]
    · simp only [Bool.and_eq_true, Nat.beq_eq, beq_iff_eq] at e; rw [ownSame_eq e.1.1.1, e.1.1.2, e.1.2, ih _ _ e.2]
    · simp only [Bool.and_eq_true, Nat.beq_eq] at e; rw [e.1.1.1, e.1.1.2, e.1.2, e.2]
    · rw [Nat.beq_eq] at e; rw [e]
    · rw [Nat.beq_eq] at e; rw [e]
    · rw [Nat.beq_eq] at e; rw [e]
    · simp only [Bool.and_eq_true] at e; rw [fnSame_eq e.1.1, ih _ _ e.1.2, ih _ _ e.2]
    · simp only [Bool.and_eq_true, Nat.beq_eq] at e; rw [e.1, sameX_eq n _ _ e.2]
    · rw [ih _ _ e]
    · rw [ih _ _ e]
    · cases e
def natsSame : List Nat → List Nat → Bool
  | [], [] => true
  | a :: l, b :: m => Nat.beq a b && natsSame l m
  | _, _ => false
theorem natsSame_eq : ∀ {l m : List Nat}, natsSame l m = true → l = m
  | [], [], _ => rfl
  | a :: l, b :: m, e => by
    simp only [natsSame, Bool.and_eq_true, Nat.beq_eq] at e
    rw [e.1, natsSame_eq e.2]
  | [], _ :: _, e => by cases e
  | _ :: _, [], e => by cases e
def entsSame (n : Nat) : List (AV × AV × Nat) → List (AV × AV × Nat) → Bool
  | [], [] => true
  | (a, b, c) :: l, (a', b', c') :: m => sameX n a a' && sameX n b b' && Nat.beq c c' && entsSame n l m
  | _, _ => false
theorem entsSame_eq {n : Nat} : ∀ {l m : List (AV × AV × Nat)}, entsSame n l m = true → l = m
  | [], [], _ => rfl
  | (a, b, c) :: l, (a', b', c') :: m, e => by
    simp only [entsSame, Bool.and_eq_true, Nat.beq_eq] at e
    rw [sameX_eq n _ _ e.1.1.1, sameX_eq n _ _ e.1.1.2, e.1.2, entsSame_eq e.2]
  | [], _ :: _, e => by cases e
  | _ :: _, [], e => by cases e
def optSame : Option Nat → Option Nat → Bool
  | none, none => true
  | some a, some b => Nat.beq a b
  | _, _ => false
theorem optSame_eq {x y : Option Nat} (e : optSame x y = true) : x = y := by
  unfold optSame at e
  split at e
  · rfl
  · rw [Nat.beq_eq] at e; rw [e]
  · cases e
def objSame (n : Nat) : AObj → AObj → Bool
  | .cells a, .cells b => sameL (sameX n) a b
  | .row a, .row b => Nat.beq a b
  | .map a c, .map b d => entsSame n a b && Nat.beq c d
  | .iter m s l k, .iter m' s' l' k' => optSame m m' && Nat.beq s s' && natsSame l l' && Nat.beq k k'
  | .siter s p, .siter s' p' => s == s' && Nat.beq p p'
  | .dead, .dead => true
  | _, _ => false
theorem objSame_eq {n : Nat} {x y : AObj} (e : objSame n x y = true) : x = y := by
  unfold objSame at e
  split at e
  · rw [sameL_eq (sameX_eq n) _ _ e]
  · rw [Nat.beq_eq] at e; rw [e]
  · simp only [Bool.and_eq_true, Nat.beq_eq] at e; rw [entsSame_eq e.1, e.2]
  · simp only [Bool.and_eq_true, Nat.beq_eq] at e; rw [optSame_eq e.1.1.1, e.1.1.2, natsSame_eq e.1.2, e.2]
  · simp only [Bool.and_eq_true, Nat.beq_eq, beq_iff_eq] at e; rw [e.1, e.2]
  · rfl
  · cases e
def trSame {α : Type} (f : α → α → Bool) : Tr α → Tr α → Bool
  | .e, .e => true
  | .n none l r, .n none l' r' => trSame f l l' && trSame f r r'
  | .n (some a) l r, .n (some b) l' r' => f a b && trSame f l l' && trSame f r r'
  | _, _ => false
theorem trSame_eq {α : Type} {f : α → α → Bool} (hf : ∀ x y, f x y = true → x = y) : ∀ {t u : Tr α}, trSame f t u = true → t = u
  | .e, .e, _ => rfl
  | .n none l r, .n none l' r', e => by
    simp only [trSame, Bool.and_eq_true] at e
    rw [trSame_eq hf e.1, trSame_eq hf e.2]
  | .n (some a) l r, .n (some b) l' r', e => by
    simp only [trSame, Bool.and_eq_true] at e
    rw [hf _ _ e.1.1, trSame_eq hf e.1.2, trSame_eq hf e.2]
  | .e, .n _ _ _, e => by cases e
  | .n none _ _, .e, e => by cases e
  | .n (some _) _ _, .e, e => by cases e
  | .n none _ _, .n (some _) _ _, e => by cases e
  | .n (some _) _ _, .n none _ _, e => by cases e
def ehSame (n : Nat) (g h : EH) : Bool := Nat.beq g.n h.n && trSame (objSame n) g.t h.t
theorem ehSame_eq {n : Nat} {g h : EH} (e : ehSame n g h = true) : g = h := by
  obtain ⟨t, m⟩ := g
  obtain ⟨u, k⟩ := h
  simp only [ehSame, Bool.and_eq_true, Nat.beq_eq] at e
  rw [e.1, trSame_eq (fun _ _ => objSame_eq) e.2]

/-- A recorded call: arguments, heap, answer, heap behind it. -/
structure HRec where
  args : List AV
  h : EH
  r : AV
  h' : EH
/-- A call at a heap that was reckoned. -/
noncomputable def heapRun (P : Program) (FT : Nat → Option EEnt) (n : Nat) (f : FuncId) (c : HRec) : Bool :=
  match goOf P FT (ae P FT n) true f c.args c.h with
  | some (r, h') => sameX 1000 c.r r && ehSame 1000 c.h' h'
  | none => false
/-- It answers so at that heap. -/
def KnowsH (P : Program) (f : FuncId) (c : HRec) : Prop := ∀ W0, ACalls P W0 f c.args c.h.list fun r' H' => r' = c.r ∧ H' = c.h'.list
theorem heap_knows {P : Program} {FT : Nat → Option EEnt} (hft : ∀ W, FTOk P W FT) {n : Nat} {f : FuncId} {c : HRec} (e : heapRun P FT n f c = true) : KnowsH P f c := by
  intro W0
  unfold heapRun at e
  split at e
  · rename_i r h' hg
    simp only [Bool.and_eq_true] at e
    rw [sameX_eq _ _ _ e.1, ehSame_eq e.2]
    exact ae_call (hft W0) hg
  · cases e
noncomputable def heapP : List HRec → List AV → EH → Option (AV × EH)
  | [], _, _ => none
  | c :: t, args, h => sel (sameL (sameX 1000) c.args args && ehSame 1000 c.h h) (some (c.r, c.h')) (heapP t args h)
theorem heapP_ok {P : Program} {W0 : World} {f : FuncId} : ∀ {es : List HRec}, (∀ c ∈ es, KnowsH P f c) → ∀ args h r h', heapP es args h = some (r, h') → ACalls P W0 f args h.list fun r' H' => r' = r ∧ H' = h'.list
  | [], _, args, h, r, h', e => by cases e
  | c :: t, hk, args, h, r, h', e => by
    simp only [heapP] at e
    rw [sel_eq] at e
    split at e
    · rename_i hs
      simp only [Bool.and_eq_true] at hs
      cases e
      have hc := hk c (by simp) W0
      rwa [sameL_eq (sameX_eq 1000) _ _ hs.1, ehSame_eq hs.2] at hc
    · exact heapP_ok (fun p hp => hk p (by simp [hp])) args h r h' e
end Go.Qa
/- The abstract machine: calls that were reckoned at a whole heap, what nobody asks for any more forgotten. -/
namespace Go.Qa
open Go Go.RowKit

def ownB (L : List Nat) (m : Nat) : Option (Nat × Nat) → Option (Nat × Nat) → Bool
  | _, none => true
  | some (t, k), some (t', k') => Nat.blt t' m && Nat.beq (L.getD t' 0) t && Nat.beq k k'
  | none, some _ => false
def plcB (L : List Nat) (m b b' : Nat) : Bool := Nat.blt b' m && Nat.beq (L.getD b' 0) b
theorem plcB_of {L : List Nat} {m b b' : Nat} (e : plcB L m b b' = true) : b' < m ∧ L.getD b' 0 = b := by
  simp only [plcB, Bool.and_eq_true, Nat.beq_eq] at e
  exact ⟨by simpa [Nat.blt_eq] using e.1, e.2⟩
def wkB (L : List Nat) (m : Nat) : Nat → AV → AV → Bool
  | 0, _, _ => false
  | n + 1, x, y => match x, y with
    | .any, .any => true
    | .int k a, .int k' b => decide (k = k') && decide (a = b)
    | .bool a, .bool b => a == b
    | .str a, .str b => a == b
    | .pl a, .pl b => plSame a b
    | .ref b o, .ref b' o' => plcB L m b b' && Nat.beq o o'
    | .eref a, .eref b => sameL (wkB L m n) a b
    | .row o f e es, .row o' f' e' es' => ownB L m o o' && (!f' || f) && Nat.beq e e' && sameL (wkB L m n) es es'
    | .arr b s l z, .arr b' s' l' z' => plcB L m b b' && Nat.beq s s' && Nat.beq l l' && Nat.beq z z'
    | .map b, .map b' => plcB L m b b'
    | .iface t a, .iface t' b => Nat.beq t t' && wkB L m n a b
    | .fn f a c, .fn f' a' c' => fnSame f f' && sameL (wkB L m n) a a' && sameL (wkB L m n) c c'
    | .agg a, .agg b => sameL (wkB L m n) a b
    | .tup a, .tup b => sameL (wkB L m n) a b
    | _, _ => false
section
variable {L : List Nat} {m : Nat}
theorem wkB_one {n : Nat} {x y : AV} (e : wkB L m n x y = true) : x.one = y.one := by
  cases n with
  | zero => cases e
  | succ n =>
    unfold wkB at e
    split at e <;> first | rfl | (rw [plSame_eq e]; done) | cases e
theorem wkB_all {n : Nat} : ∀ {xs ys : List AV}, sameL (wkB L m n) xs ys = true → xs.all AV.one = ys.all AV.one
  | [], [], _ => rfl
  | x :: xs, y :: ys, e => by
    simp only [sameL, Bool.and_eq_true] at e
    simp only [List.all_cons, wkB_one e.1, wkB_all e.2]
  | [], _ :: _, e => by cases e
  | _ :: _, [], e => by cases e
theorem wkB_mono : ∀ {n : Nat} {x y : AV}, wkB L m n x y = true → wkB L m (n + 1) x y = true
  | 0, _, _, e => by cases e
  | n + 1, x, y, e => by
    have ih := @wkB_mono n
    have ihl : ∀ {xs ys : List AV}, sameL (wkB L m n) xs ys = true → sameL (wkB L m (n + 1)) xs ys = true := fun q => sameL_mono (fun _ _ => ih) q
    unfold wkB at e
    split at e <;> unfold wkB <;> simp only [Bool.and_eq_true] at e ⊢ <;> first | exact e | exact ihl e | exact ⟨e.1, ihl e.2⟩ | exact ⟨e.1, ih e.2⟩ | exact ⟨⟨e.1.1, ihl e.1.2⟩, ihl e.2⟩ | cases e
theorem wkB_cells {n : Nat} {x y : AV} (e : wkB L m n x y = true) : y.cells?.map List.length = x.cells?.map List.length ∧ ∀ j, (x.cells.getD j .any = .any ∧ y.cells.getD j .any = .any) ∨ ∃ k, wkB L m k (x.cells.getD j .any) (y.cells.getD j .any) = true := by
  have e0 := e
  have single : x.cells? = (if x.one then some [x] else none) → y.cells? = (if y.one then some [y] else none) → y.cells?.map List.length = x.cells?.map List.length ∧ ∀ j, (x.cells.getD j .any = .any ∧ y.cells.getD j .any = .any) ∨ ∃ k, wkB L m k (x.cells.getD j .any) (y.cells.getD j .any) = true := by
    intro h1 h2
    have ho := wkB_one e0
    by_cases q : y.one = true
    · rw [if_pos q] at h2
      rw [if_pos (by rw [ho]; exact q)] at h1
      refine ⟨by rw [h1, h2]; rfl, fun j => ?_⟩
      simp only [AV.cells, h1, h2, Option.getD_some]
      cases j with
      | zero => exact .inr ⟨n, e0⟩
      | succ j => exact .inl ⟨by simp, by simp⟩
    · rw [if_neg q] at h2
      rw [if_neg (by rw [ho]; exact q)] at h1
      refine ⟨by rw [h1, h2], fun j => ?_⟩
      simp only [AV.cells, h1, h2, Option.getD_none]
      exact .inl ⟨by simp, by simp⟩
  cases n with
  | zero => cases e
  | succ n =>
    unfold wkB at e
    split at e <;> try (exact single rfl rfl)
    · rename_i a b
      have hl := sameL_getD e
      have ha := wkB_all e
      show (if b.all AV.one then some b else none).map List.length = (if a.all AV.one then some a else none).map List.length ∧ ∀ j, ((((if a.all AV.one then some a else none).getD []).getD j .any) = .any ∧ (((if b.all AV.one then some b else none).getD []).getD j .any) = .any) ∨ ∃ k, wkB L m k (((if a.all AV.one then some a else none).getD []).getD j .any) (((if b.all AV.one then some b else none).getD []).getD j .any) = true
      rw [ha]
      by_cases q : b.all AV.one = true
      · rw [if_pos q, if_pos q]
        refine ⟨by simp [hl.1], fun j => ?_⟩
        simp only [Option.getD_some]
        by_cases qj : j < a.length
        · exact .inr ⟨n, hl.2 j qj⟩
        · exact .inl ⟨by rw [List.getD_eq_getElem?_getD, List.getElem?_eq_none (by omega)]; rfl, by rw [List.getD_eq_getElem?_getD, List.getElem?_eq_none (by omega)]; rfl⟩
      · rw [if_neg q, if_neg q]
        exact ⟨rfl, fun j => .inl ⟨by simp, by simp⟩⟩
    · cases e
theorem wkB_size : ∀ {n : Nat} {x y : AV}, wkB L m n x y = true → Wk (fun i => L.getD i 0) m x y
  | 0, _, _, e => by cases e
  | n + 1, x, y, e => by
    have ihl : ∀ {xs ys : List AV}, sameL (wkB L m n) xs ys = true → ys.length = xs.length ∧ ∀ j, j < xs.length → Wk (fun i => L.getD i 0) m (xs.getD j .any) (ys.getD j .any) := fun q => ⟨(sameL_getD q).1.symm, fun j hj => wkB_size ((sameL_getD q).2 j hj)⟩
    have e0 := e
    unfold wkB at e
    split at e
    · exact .any _
    · simp only [Bool.and_eq_true, decide_eq_true_eq] at e; rw [e.1, e.2]; exact .int _ _
    · rw [beq_iff_eq] at e; rw [e]; exact .bool _
    · rw [beq_iff_eq] at e; rw [e]; exact .str _
    · rw [plSame_eq e]; exact .pl _
    · simp only [Bool.and_eq_true, Nat.beq_eq] at e; obtain ⟨a, b⟩ := plcB_of e.1; rw [e.2]; exact .ref _ _ _ a b
    · exact .eref _ _ (ihl e).1 (ihl e).2
    · rename_i o f z es o' f' z' es'
      simp only [Bool.and_eq_true, Nat.beq_eq] at e
      obtain ⟨⟨⟨e1, e2⟩, e3⟩, e4⟩ := e
      subst e3
      refine .row _ _ _ _ _ _ _ (ihl e4).1 ?_ (fun q => by subst q; simpa using e2) (fun i hi => (wkB_cells ((sameL_getD e4).2 i hi)).1) fun i j hi hj => ?_
      · cases o' with
        | none => exact .inl rfl
        | some p' =>
          obtain ⟨t', k'⟩ := p'
          cases o with
          | none => cases e1
          | some p =>
            obtain ⟨t, k⟩ := p
            simp only [ownB, Bool.and_eq_true, Nat.beq_eq] at e1
            exact .inr ⟨t', k', rfl, by simpa [Nat.blt_eq] using e1.1.1, by rw [e1.1.2, e1.2]⟩
      · rcases (wkB_cells ((sameL_getD e4).2 i hi)).2 j with ⟨a, b⟩ | ⟨k, hk⟩
        · rw [a, b]; exact .any _
        · rcases (wkB_cells ((sameL_getD e4).2 i hi)).2 j with ⟨a, b⟩ | _
          · rw [a, b]; exact .any _
          · exact cellWk (fun x y q => wkB_size q) ((sameL_getD e4).2 i hi) j
    · simp only [Bool.and_eq_true, Nat.beq_eq] at e; obtain ⟨a, b⟩ := plcB_of e.1.1.1; rw [e.1.1.2, e.1.2, e.2]; exact .arr _ _ _ _ _ a b
    · obtain ⟨a, b⟩ := plcB_of e; exact .map _ _ a b
    · simp only [Bool.and_eq_true, Nat.beq_eq] at e; rw [e.1]; exact .iface _ _ _ (wkB_size e.2)
    · simp only [Bool.and_eq_true] at e; rw [fnSame_eq e.1.1]; exact .fn _ _ _ _ _ (ihl e.1.2).1 (ihl e.2).1 (ihl e.1.2).2 (ihl e.2).2
    · exact .agg _ _ (ihl e).1 (ihl e).2
    · exact .tup _ _ (ihl e).1 (ihl e).2
    · cases e
where
  cellWk {n : Nat} {x y : AV} (rec : ∀ x y, wkB L m n x y = true → Wk (fun i => L.getD i 0) m x y) (e : wkB L m n x y = true) (j : Nat) : Wk (fun i => L.getD i 0) m (x.cells.getD j .any) (y.cells.getD j .any) := by
    have w := rec _ _ e
    have single : x.cells? = (if x.one then some [x] else none) → y.cells? = (if y.one then some [y] else none) → Wk (fun i => L.getD i 0) m (x.cells.getD j .any) (y.cells.getD j .any) := by
      intro h1 h2
      have ho := wkB_one e
      by_cases q : y.one = true
      · rw [if_pos q] at h2
        rw [if_pos (by rw [ho]; exact q)] at h1
        simp only [AV.cells, h1, h2, Option.getD_some]
        cases j with
        | zero => exact w
        | succ j => simpa using Wk.any _
      · rw [if_neg q] at h2
        rw [if_neg (by rw [ho]; exact q)] at h1
        simp only [AV.cells, h1, h2, Option.getD_none]
        simpa using Wk.any _
    have e0 := e
    cases n with
    | zero => cases e
    | succ n =>
      unfold wkB at e
      split at e <;> try (exact single rfl rfl)
      · rename_i a b
        have ha := wkB_all e
        cases w with
        | agg _ _ hl hh =>
          show Wk _ _ (((if a.all AV.one then some a else none).getD []).getD j .any) (((if b.all AV.one then some b else none).getD []).getD j .any)
          rw [ha]
          by_cases q : b.all AV.one = true
          · rw [if_pos q, if_pos q]
            simp only [Option.getD_some]
            by_cases qj : j < a.length
            · exact hh j qj
            · rw [List.getD_eq_getElem?_getD (l := b), List.getElem?_eq_none (by omega)]
              exact .any _
          · rw [if_neg q, if_neg q]
            simpa using Wk.any _
      · cases e
end
def allOnes : List AV → Bool
  | [] => true
  | x :: r => x.one && allOnes r
theorem allOnes_getD : ∀ {l : List AV}, allOnes l = true → ∀ j, j < l.length → (l.getD j .any).one = true
  | [], _, j, hj => by simp at hj
  | x :: r, e, j, hj => by
    simp only [allOnes, Bool.and_eq_true] at e
    cases j with
    | zero => simpa using e.1
    | succ j => simpa using allOnes_getD e.2 j (by simpa using hj)
def entsB (L : List Nat) (m : Nat) : List (AV × AV × Nat) → List (AV × AV × Nat) → Bool
  | [], [] => true
  | a :: r, b :: t => wkB L m 1000 a.1 b.1 && wkB L m 1000 a.2.1 b.2.1 && Nat.beq a.2.2 b.2.2 && entsB L m r t
  | _, _ => false
theorem entsB_of {L : List Nat} {m : Nat} : ∀ {l t : List (AV × AV × Nat)}, entsB L m l t = true → l.length = t.length ∧ ∀ (j : Nat) (e e' : AV × AV × Nat), l[j]? = some e → t[j]? = some e' → Wk (fun i => L.getD i 0) m e.1 e'.1 ∧ Wk (fun i => L.getD i 0) m e.2.1 e'.2.1 ∧ e.2.2 = e'.2.2
  | [], [], _ => ⟨rfl, fun j e e' q => by simp at q⟩
  | a :: r, b :: t, h => by
    simp only [entsB, Bool.and_eq_true, Nat.beq_eq] at h
    have ih := entsB_of h.2
    refine ⟨by simp [ih.1], fun j e e' q q' => ?_⟩
    cases j with
    | zero =>
      simp at q q'
      subst q q'
      exact ⟨wkB_size h.1.1.1, wkB_size h.1.1.2, h.1.2⟩
    | succ j => exact ih.2 j e e' (by simpa using q) (by simpa using q')
  | [], _ :: _, h => by cases h
  | _ :: _, [], h => by cases h
def objB (L : List Nat) (m : Nat) : AObj → AObj → Bool
  | _, .dead => true
  | .cells a, .cells b => allOnes b && sameL (wkB L m 1000) a b
  | .row a, .row b => Nat.beq a b
  | .map es c, .map es' c' => Nat.beq c c' && entsB L m es es'
  | _, _ => false
theorem objB_of {L : List Nat} {m : Nat} {o o' : AObj} (e : objB L m o o' = true) : OWk (fun i => L.getD i 0) m o o' := by
  unfold objB at e
  split at e
  · cases o <;> trivial
  · simp only [Bool.and_eq_true] at e
    have h := sameL_getD e.2
    exact ⟨h.1.symm, fun j hj => ⟨allOnes_getD e.1 j (by rw [← h.1]; exact hj), wkB_size (h.2 j hj)⟩⟩
  · rw [Nat.beq_eq] at e; exact e
  · simp only [Bool.and_eq_true, Nat.beq_eq] at e
    exact ⟨e.1, entsB_of e.2⟩
  · cases e
def idB : Nat → List Nat → Nat → Bool
  | 0, _, _ => true
  | n + 1, [], _ => false
  | n + 1, x :: r, i => Nat.beq x i && idB n r (i + 1)
theorem idB_of : ∀ {n : Nat} {L : List Nat} {i : Nat}, idB n L i = true → ∀ j, j < n → L.getD j 0 = i + j
  | 0, _, _, _, j, hj => by omega
  | n + 1, [], _, e, j, hj => by cases e
  | n + 1, x :: r, i, e, j, hj => by
    simp only [idB, Bool.and_eq_true, Nat.beq_eq] at e
    cases j with
    | zero => simpa using e.1
    | succ j =>
      have := idB_of e.2 j (by omega)
      simp only [List.getD_cons_succ, this]
      omega
/-- Places ascend. -/
def upB : List Nat → Nat → Bool
  | [], _ => true
  | x :: r, i => Nat.ble i x && upB r (x + 1)
theorem upB_of : ∀ {L : List Nat} {i : Nat}, upB L i = true → ∀ j, j < L.length → i ≤ L.getD j 0 ∧ ∀ k, k < j → L.getD k 0 < L.getD j 0
  | [], _, _, j, hj => by simp at hj
  | x :: r, i, e, j, hj => by
    simp only [upB, Bool.and_eq_true, Nat.ble_eq] at e
    cases j with
    | zero => exact ⟨by simpa using e.1, fun k hk => by omega⟩
    | succ j =>
      have := upB_of e.2 j (by simpa using hj)
      simp only [List.getD_cons_succ]
      refine ⟨by omega, fun k hk => ?_⟩
      cases k with
      | zero => simp only [List.getD_cons_zero]; omega
      | succ k => simp only [List.getD_cons_succ]; exact this.2 k (by omega)
noncomputable def objsB (L : List Nat) (m : Nat) (h0 h' : EH) : List Nat → Nat → Bool
  | [], _ => true
  | x :: r, i => (match h'.get x, h0.get i with
    | some o, some o' => objB L m o o'
    | _, _ => false) && objsB L m h0 h' r (i + 1)
theorem objsB_of {L : List Nat} {m : Nat} {h0 h' : EH} : ∀ {R : List Nat} {i : Nat}, objsB L m h0 h' R i = true → ∀ j, j < R.length → ∃ o o', h'.get (R.getD j 0) = some o ∧ h0.get (i + j) = some o' ∧ objB L m o o' = true
  | [], _, _, j, hj => by simp at hj
  | x :: r, i, e, j, hj => by
    simp only [objsB, Bool.and_eq_true] at e
    cases j with
    | zero =>
      have e1 := e.1
      split at e1
      · rename_i o o' q q'
        exact ⟨o, o', by simpa using q, by simpa using q', e1⟩
      · cases e1
    | succ j =>
      obtain ⟨o, o', a, b, c⟩ := objsB_of e.2 j (by simpa using hj)
      exact ⟨o, o', by simpa using a, by rw [show i + (j + 1) = i + 1 + j by omega]; exact b, c⟩
noncomputable def heapRunT (P : Program) (FT : Nat → Option EEnt) (n : Nat) (f : FuncId) (L : List Nat) (c : HRec) : Bool :=
  match goOf P FT (ae P FT n) true f c.args c.h with
  | some (r, h') => Nat.beq L.length c.h'.n && Nat.ble c.h.n c.h'.n && idB c.h.n L 0 && upB L 0 && wkB L c.h'.n 1000 r c.r && objsB L c.h'.n c.h' h' L 0
  | none => false
theorem heapT_knows {P : Program} {FT : Nat → Option EEnt} (hft : ∀ W, FTOk P W FT) {n : Nat} {f : FuncId} {L : List Nat} {c : HRec} (e : heapRunT P FT n f L c = true) : KnowsH P f c := by
  intro W0
  unfold heapRunT at e
  split at e
  rotate_left
  · cases e
  rename_i r h' he
  simp only [Bool.and_eq_true, Nat.beq_eq, Nat.ble_eq] at e
  obtain ⟨⟨⟨⟨⟨e1, e2⟩, e3⟩, e4⟩, e5⟩, e6⟩ := e
  refine ACalls.trim (ae_call (hft W0) he) fun r1 H1 ⟨q1, q2⟩ => ?_
  subst q1 q2
  refine ⟨c.r, c.h'.list, fun i => L.getD i 0, ⟨rfl, rfl⟩, by simp only [EH.length_list]; exact e2, fun i hi => ?_, fun i j hi hj q => ?_, by simp only [EH.length_list]; exact wkB_size e5, fun i o' q => ?_⟩
  · rw [EH.length_list] at hi
    have := idB_of e3 i hi
    simpa using this
  · rw [EH.length_list, ← e1] at hi hj
    rcases Nat.lt_trichotomy i j with z | z | z
    · have := (upB_of e4 j hj).2 i z
      simp only at q
      omega
    · exact z
    · have := (upB_of e4 i hi).2 j z
      simp only at q
      omega
  · rw [EH.get_list] at q
    have hi := EH.get_lt q
    obtain ⟨o, o2, a, b, d⟩ := objsB_of e6 i (by omega)
    rw [Nat.zero_add, q] at b
    cases b
    refine .inr ⟨o, by rw [EH.get_list]; exact a, ?_⟩
    rw [EH.length_list]
    exact objB_of d
end Go.Qa
/- The abstract machine: a call by itself that reads the caller's boxes: what lies in them counts as rows there; its answer is plain. -/
namespace Go.Qa
open Go Go.RowKit

/-- The recorded value, and the one at hand: a box of the heap may stand for a row. -/
def sameH (g : Nat → Option AObj) : Nat → AV → AV → Bool
  | 0, _, _ => false
  | n + 1, x, y => match x, y with
    | .row none false e es, .arr b start len e' => Nat.beq e e' && Nat.beq es.length len && (match g b with
      | some (.cells cs) => Nat.ble ((start + len) * e) cs.length && (List.range len).all fun i => (match (es.getD i .any).cells? with
        | some ds => Nat.beq ds.length e && (List.range e).all fun j => sameH g n (ds.getD j .any) (cs.getD ((start + i) * e + j) .any)
        | none => false)
      | _ => false)
    | .row none f e es, .row _ f' e' es' => (!f || f') && Nat.beq e e' && Nat.beq es.length es'.length && (List.range es.length).all fun i => (match (es.getD i .any).cells?, (es'.getD i .any).cells? with
        | some ds, some ds' => Nat.beq ds.length ds'.length && (List.range ds.length).all fun j => sameH g n (ds.getD j .any) (ds'.getD j .any)
        | _, _ => false)
    | .int k a, .int k' b => decide (k = k') && decide (a = b)
    | .bool a, .bool b => a == b
    | .str a, .str b => a == b
    | .pl a, .pl b => plSame a b
    | .iface t a, .iface t' b => Nat.beq t t' && sameH g n a b
    | .agg a, .agg b => sameL (sameH g n) a b
    | .tup a, .tup b => sameL (sameH g n) a b
    | _, _ => false
/-- In a call that begins at the world w every cell that is there stays. -/
def allImm (w : World) : Ghost := ⟨fun _ => none, fun B o => if B < w.heap.size then w.cell? ⟨B, o, none⟩ else none, fun _ _ => none, fun _ => none⟩
theorem allImm_inv (w : World) : HInv w [] (allImm w) w := by
  refine { base := Below.refl _ _, lt := fun _ _ e => (by cases e), imm := fun B o v e => ?_, bxs := fun _ _ e => (by cases e), inj := fun _ _ _ e => (by cases e), ats := fun _ _ _ _ e => (by cases e), obj := fun i o e => (by simp at e), cur := fun t _ n _ _ _ _ e => (by simp at e) }
  simp only [allImm] at e
  split at e
  · rename_i h; exact ⟨.inr h, e⟩
  · cases e
theorem sameH_rel {W0 : World} {H : AHeap} {G : Ghost} {w : World} {g : Nat → Option AObj} (hg : ∀ b, g b = H[b]?) (hi : HInv W0 H G w) : ∀ (n : Nat) {x y : AV} {v : Value}, sameH g n x y = true → VRel G y v → VRel (allImm w) x v
  | 0, _, _, _, e, _ => by cases e
  | n + 1, x, y, v, e, h => by
    have ih := @sameH_rel W0 H G w g hg hi n
    unfold sameH at e
    split at e
    · rename_i sz es b start len sz'
      simp only [Bool.and_eq_true, Nat.beq_eq] at e
      obtain ⟨⟨rfl, rfl⟩, e⟩ := e
      split at e
      · rename_i cs hb
        rw [hg] at hb
        simp only [Bool.and_eq_true, Nat.ble_eq, List.all_eq_true, List.mem_range] at e
        obtain ⟨hle, e⟩ := e
        cases h with
        | arr _ _ _ _ B cap szb hB hc hx hsz hz =>
          obtain ⟨B', vs, ty, fz, hB', hh, hsv, hfz, hlv, hcv⟩ := hi.obj b _ hb
          rw [hB] at hB'; cases hB'
          have hbw : B < w.heap.size := (hi.lt B _ hsv).2
          have hcell : ∀ i j, i < es.length → j < sz → ∃ ds, (es.getD i .any).cells? = some ds ∧ ds.length = sz ∧ sameH g n (ds.getD j .any) (cs.getD ((start + i) * sz + j) .any) = true ∧ (start + i) * sz + j < cs.length := by
            intro i j hil hj
            have := e i hil
            split at this
            · rename_i ds hds
              simp only [Bool.and_eq_true, Nat.beq_eq, List.all_eq_true, List.mem_range] at this
              refine ⟨ds, hds, this.1, this.2 j hj, ?_⟩
              have : (start + i + 1) * sz ≤ (start + es.length) * sz := Nat.mul_le_mul_right _ (by omega)
              rw [Nat.add_mul _ 1 sz] at this
              omega
            · cases this
          refine .row none false sz es ⟨B, start * sz, none⟩ cap (fun i j => vs.toList.getD ((start + i) * sz + j) undef) (fun _ => rfl) (fun i hil => ?_) (fun i j hil hj => ?_) (fun i j hil hj => ?_) hc hx (fun q => by cases q) (fun t m q => by cases q)
          · have := e i hil
            split at this
            · rename_i ds hds
              simp only [Bool.and_eq_true, Nat.beq_eq] at this
              exact ⟨ds, hds, this.1⟩
            · cases this
          · obtain ⟨ds, h1, h2, h3, h4⟩ := hcell i j hil hj
            have : start * sz + (i * sz + j) = (start + i) * sz + j := by rw [Nat.add_mul]; omega
            simp only [allImm, hbw, if_true, this]
            have h5 : (start + i) * sz + j < vs.size := by omega
            simp only [World.cell?, hh]
            simp [h5, List.getD_eq_getElem?_getD]
          · obtain ⟨ds, h1, h2, h3, h4⟩ := hcell i j hil hj
            have : (es.getD i .any).cells = ds := by simp only [AV.cells, h1, Option.getD_some]
            rw [this]
            exact ih h3 (hcv _ h4).2
      · cases e
    · rename_i f sz es o' f' sz' es'
      simp only [Bool.and_eq_true, Nat.beq_eq, List.all_eq_true, List.mem_range] at e
      obtain ⟨⟨⟨e1, rfl⟩, hl⟩, e⟩ := e
      cases h with
      | row _ _ _ _ a cap cv hs he hm hv hc hx hf ho =>
        have hcell : ∀ i, i < es.length → ∃ ds ds', (es.getD i .any).cells? = some ds ∧ (es'.getD i .any).cells? = some ds' ∧ ds.length = sz ∧ ds'.length = sz ∧ ∀ j, j < sz → sameH g n (ds.getD j .any) (ds'.getD j .any) = true := by
          intro i hil
          have := e i hil
          split at this
          · rename_i ds ds' hds hds'
            simp only [Bool.and_eq_true, Nat.beq_eq, List.all_eq_true, List.mem_range] at this
            obtain ⟨cs, hc1, hc2⟩ := he i (by omega)
            rw [hds'] at hc1; cases hc1
            exact ⟨ds, ds', hds, hds', by omega, hc2, fun j hj => this.2 j (by omega)⟩
          · cases this
        rw [← hl]
        refine .row none f sz es a cap cv (fun q => hs (by omega)) (fun i hil => ?_) (fun i j hil hj => ?_) (fun i j hil hj => ?_) (by omega) hx (fun q => ?_) (fun t m q => by cases q)
        · obtain ⟨ds, ds', h1, h2, h3, h4, h5⟩ := hcell i hil
          exact ⟨ds, h1, h3⟩
        · have h1 := hm i j (by omega) hj
          have h2 := hi.imm _ _ _ h1
          simp only [allImm, hi.immLt h1, if_true]
          exact h2.2
        · obtain ⟨ds, ds', h1, h2, h3, h4, h5⟩ := hcell i hil
          have l1 : (es.getD i .any).cells = ds := by simp only [AV.cells, h1, Option.getD_some]
          have l2 : (es'.getD i .any).cells = ds' := by simp only [AV.cells, h2, Option.getD_some]
          have := hv i j (by omega) hj
          rw [l2] at this
          rw [l1]
          exact ih (h5 j hj) this
        · rw [q] at e1
          have := hf (by simpa using e1)
          omega
    · simp only [Bool.and_eq_true, decide_eq_true_eq] at e
      rw [e.1, e.2]; cases h; exact .int _ _
    · rw [beq_iff_eq] at e; rw [e]; cases h; exact .bool _
    · rw [beq_iff_eq] at e; rw [e]; cases h with | str _ hl => exact .str _ hl
    · rw [plSame_eq e]; cases h; exact .pl _
    · simp only [Bool.and_eq_true, Nat.beq_eq] at e
      cases h with
      | iface _ _ v h => rw [e.1]; exact .iface _ _ _ (ih e.2 h)
    · have h4 := sameL_getD e
      cases h with
      | agg _ vs hl h => exact .agg _ vs (by omega) fun j hj => ih (h4.2 j hj) (h j (by omega))
    · have h4 := sameL_getD e
      cases h with
      | tup _ vs hl h => exact .tup _ vs (by omega) fun j hj => ih (h4.2 j hj) (h j (by omega))
    · cases e
/-- A value without addresses. -/
def scalF : Nat → AV → Bool
  | 0, _ => false
  | n + 1, x => match x with
    | .int .. | .bool _ | .str _ | .pl _ => true
    | .iface _ y => scalF n y
    | .agg cs | .tup cs => cs.all (scalF n)
    | _ => false
theorem scal_rel {G G' : Ghost} : ∀ (n : Nat) {x : AV} {v : Value}, scalF n x = true → VRel G x v → VRel G' x v
  | 0, _, _, e, _ => by cases e
  | n + 1, x, v, e, h => by
    have ih := @scal_rel G G' n
    have get : ∀ (cs : List AV) j, j < cs.length → cs.all (scalF n) = true → scalF n (cs.getD j .any) = true := fun cs j hj q => by
      rw [List.all_eq_true] at q
      rw [List.getD_eq_getElem?_getD, List.getElem?_eq_getElem hj]
      exact q _ (List.getElem_mem hj)
    cases x <;> simp only [scalF] at e <;> try (cases e; done)
    · cases h; exact .int _ _
    · cases h; exact .bool _
    · cases h with | str _ hl => exact .str _ hl
    · cases h; exact .pl _
    · cases h with | iface _ _ v h => exact .iface _ _ _ (ih e h)
    · cases h with | agg _ vs hl h => exact .agg _ vs hl fun j hj => ih (get _ j hj e) (h j hj)
    · cases h with | tup _ vs hl h => exact .tup _ vs hl fun j hj => ih (get _ j hj e) (h j hj)
/-- What is known of a call of trees whose answer is plain, where boxes stand for some of the rows. -/
theorem Knows.boxes {P : Program} {W0 : World} {f : FuncId} {lits args : List AV} {r : AV} {n m : Nat} (h : Knows P f lits r) {H : AHeap} {g : Nat → Option AObj} (hg : ∀ b, g b = H[b]?) (hs : sameL (sameH g n) lits args = true) (hr : scalF m r = true) :
    ACalls P W0 f args H fun r' H' => r' = r ∧ H' = H := by
  refine ⟨(h W0 H).1, fun G w vs hi hv => ?_⟩
  have h4 := sameL_getD hs
  have hv0 : VRels (allImm w) lits vs := ⟨by rw [hv.1, h4.1], fun j hj => sameH_rel hg hi n (h4.2 j hj) (hv.2 j (by omega))⟩
  refine ((h w []).2 _ w vs (allImm_inv w) hv0).mono fun e w' ⟨v, r', H', G', e1, hq, hn, hi', hv'⟩ => ?_
  obtain ⟨rfl, _⟩ := hq
  obtain ⟨f1, f2⟩ := frame_below hi hi'.base
  exact ⟨v, _, H, G, e1, ⟨rfl, rfl⟩, f2, f1, scal_rel m hr hv'⟩
/-- Recorded calls of plain answers, where boxes may stand for rows. -/
noncomputable def boxP : List (List AV × AV) → List AV → EH → Option (AV × EH)
  | [], _, _ => none
  | (a, r) :: t, args, h => sel (scalF 100 r && sameL (sameH h.get 1000) a args) (some (r, h)) (boxP t args h)
theorem boxP_ok {P : Program} {W0 : World} {f : FuncId} : ∀ {es : List (List AV × AV)}, (∀ p ∈ es, Knows P f p.1 p.2) → ∀ args h r h', boxP es args h = some (r, h') → ACalls P W0 f args h.list fun r' H' => r' = r ∧ H' = h'.list
  | [], _, args, h, r, h', e => by cases e
  | (a, q) :: t, hk, args, h, r, h', e => by
    simp only [boxP] at e
    rw [sel_eq] at e
    split at e
    · rename_i hs
      cases e
      simp only [Bool.and_eq_true] at hs
      exact (hk (a, q) (by simp)).boxes (g := h.get) (fun b => (EH.get_list ..).symm) hs.2 hs.1
    · exact boxP_ok (fun p hp => hk p (by simp [hp])) args h r h' e
end Go.Qa
/- The abstract machine: a run that goes every way: where a map is ranged over, each entry may come next. -/
namespace Go.Qa
open Go Go.RowKit

abbrev KB := AV → EH → Bool
noncomputable def optB (x : Option (AV × EH)) (k : KB) : Bool :=
  match x with
  | some (v, h) => k v h
  | none => false
theorem optB_some {x : Option (AV × EH)} {k : KB} (e : optB x k = true) : ∃ v h, x = some (v, h) ∧ k v h = true := by
  cases x with
  | none => cases e
  | some p => exact ⟨p.1, p.2, rfl, e⟩
noncomputable def nextB (x : AV) (h : EH) (k : KB) : Bool :=
  match x with
  | .itr r => match h.get r with
    | some (.iter none _ _ _) => k (.tup [.bool false]) h
    | some (.iter (some m) since seen last) => match h.get m with
      | some (.map es clock) => (seen.isEmpty || es.isEmpty || es.any fun e => Nat.blt e.2.2 last) && (candAV es since seen).all fun c => match c with
        | none => k (.tup [.bool false]) h
        | some e => k (.tup [.bool true, e.1, e.2.1]) (h.set r (.iter (some m) since (seen ++ [e.2.2]) clock))
      | _ => false
    | _ => false
  | _ => false
section
variable {P : Program} {W0 : World} {FT : Nat → Option EEnt}
theorem nextB_ok {x : AV} {h : EH} {k : KB} {d : Option Nat} {K : AS → AHeap → Prop} {st : AS} (e : nextB x h k = true) (hk : ∀ v h', k v h' = true → K (st.set d v) h'.list) : nextAV x d K st h.list := by
  unfold nextB at e
  split at e
  · rename_i r
    split at e
    · rename_i hb
      simp only [nextAV, EH.get_list, hb]; exact hk _ _ e
    · rename_i m since seen last hb
      split at e
      · rename_i es clock hm
        simp only [Bool.and_eq_true, List.all_eq_true] at e
        obtain ⟨q, e⟩ := e
        simp only [nextAV, EH.get_list, hb, hm]
        refine ⟨?_, fun c hc => ?_⟩
        · simp only [Bool.or_eq_true, List.isEmpty_iff, List.any_eq_true] at q
          rcases q with (q | q) | ⟨e, he, q⟩
          · exact .inl q
          · exact .inr (.inl q)
          · exact .inr (.inr ⟨e, he, by simpa using q⟩)
        · have := e c hc
          cases c with
          | none => exact hk _ _ this
          | some e1 =>
            have := hk _ _ this
            rwa [EH.set_list _ _ _ (by rw [hb]; simp)] at this
      · cases e
    · cases e
  · cases e
def GoBOk (P : Program) (W0 : World) (goB : Nat → List AV → EH → KB → Bool) : Prop := ∀ f args h k, goB f args h k = true → ACalls P W0 f args h.list fun r H' => ∃ h' : EH, H' = h'.list ∧ k r h' = true
noncomputable def opB (go : GoE) (goB : Nat → List AV → EH → KB → Bool) (o : AOper) (st : AS) (h : EH) (k : KB) : Bool :=
  match o.guard, o.op with
  | none, .ef (.next x) => nextB (st.ev x) h k
  | none, .ef (.call f args) => match st.ev f with
    | .fn (.func g) first captured => (first ++ args.map st.ev ++ captured).all AV.glob && goB g (first ++ args.map st.ev ++ captured) h k
    | _ => optB (o.evE go st h) k
  | _, _ => optB (o.evE go st h) k
theorem opB_ok {go : GoE} {goB : Nat → List AV → EH → KB → Bool} (hgo : GoOk P W0 go) (hgb : GoBOk P W0 goB) {o : AOper} {st : AS} {h : EH} {k : KB} {K : AS → AHeap → Prop} (e : opB go goB o st h k = true)
    (hk : ∀ v h', k v h' = true → K (st.set o.dst v) h'.list) : o.wp P W0 K st h.list := by
  have plain : optB (o.evE go st h) k = true → o.wp P W0 K st h.list := fun e => by
    obtain ⟨v, h', e1, e2⟩ := optB_some e
    exact AOper.evE_ok hgo e1 (hk _ _ e2)
  unfold opB at e
  split at e
  · rename_i x hg ho
    unfold AOper.wp
    rw [hg, ho]
    exact nextB_ok e hk
  · rename_i f args hg ho
    split at e
    · rename_i g first captured hf
      simp only [Bool.and_eq_true] at e
      unfold AOper.wp
      rw [hg, ho]
      simp only [AOp.wp, EOp.wp, hf, callAV]
      refine ⟨e.1, (hgb _ _ _ _ e.2).mono fun r H' ⟨h', hH, hr⟩ => ?_⟩
      subst hH
      exact hk _ _ hr
    · exact plain e
  · exact plain e
noncomputable def evOpsB (go : GoE) (goB : Nat → List AV → EH → KB → Bool) : List AOper → Tr AV → EH → (Tr AV → EH → Bool) → Bool
  | [], s, h, k => k s h
  | o :: l, s, h, k => opB go goB o (mkS s) h fun v h' => fAV v fun v => fEH h' fun h' => putOK s o.dst v fun s => evOpsB go goB l s h' k
theorem evOpsB_ok {go : GoE} {goB : Nat → List AV → EH → KB → Bool} (hgo : GoOk P W0 go) (hgb : GoBOk P W0 goB) {K : AS → AHeap → Prop} {k : Tr AV → EH → Bool} (hk : ∀ s h, k s h = true → K (mkS s) h.list) :
    ∀ {l : List AOper} {s : Tr AV} {h : EH}, evOpsB go goB l s h k = true → awpOps P W0 l K (mkS s) h.list
  | [], s, h, e => hk _ _ e
  | o :: l, s, h, e => by
    refine opB_ok hgo hgb e fun v h' e2 => ?_
    simp only [fAV_eq, fEH_eq, putOK_eq] at e2
    rw [← mkS_putO]
    exact evOpsB_ok hgo hgb hk e2
noncomputable def goBOf (FT : Nat → Option EEnt) (rec : ECode → Tr AV → EH → (AExit → Tr AV → EH → Bool) → Bool) (f : Nat) (args : List AV) (h : EH) (k : KB) : Bool :=
  match FT f with
  | some (.fn ef) => Nat.ble args.length ef.n && rec ef.code (initT args 0 .e) h fun x s' h' => match x with
    | .exit _ => false
    | _ => match resE ef.res s' h' with
      | some r => k r h'
      | none => false
  | some (.prim p) => optB (p args h) k
  | none => false
noncomputable def aeB (P : Program) (FT : Nat → Option EEnt) : Nat → ECode → Tr AV → EH → (AExit → Tr AV → EH → Bool) → Bool
  | 0, _, _, _, _ => false
  | n + 1, c, s, h, k => match c with
    | .skip => k .normal s h
    | .ops l => evOpsB (goOf P FT (ae P FT n)) (goBOf FT (aeB P FT n)) l s h (k .normal)
    | .draw l cks => match evDraw (goOf P FT (ae P FT n)) l cks s h with
      | some (s', h') => k .normal s' h'
      | none => false
    | .seq a b => aeB P FT n a s h fun x s' h' => match x with
      | .normal => aeB P FT n b s' h' k
      | x => k x s' h'
    | .cond c x y => match (mkS s).ev c with
      | .bool b => sel b (aeB P FT n x s h k) (aeB P FT n y s h k)
      | _ => false
    | .block id c => aeB P FT n c s h fun x s' h' => match x with
      | .exit i => sel (Nat.beq i id) (k .normal s' h') (k (.exit i) s' h')
      | x => k x s' h'
    | .loop c => aeB P FT n c s h fun x s' h' => match x with
      | .normal => aeB P FT n (.loop c) s' h' k
      | x => k x s' h'
    | .exit id => k (.exit id) s h
    | .ret => k .ret s h
    | _ => false
theorem goBOf_ok {n : Nat} (hft : FTOk P W0 FT) (ih : ∀ (c : ECode) (ac : ACode) (s : Tr AV) (h : EH) (k : AExit → Tr AV → EH → Bool) (Q : AQ), toE ac = some c → aeB P FT n c s h k = true → (∀ x s' h', k x s' h' = true → Q x (mkS s') h'.list) → awp P W0 ac Q (mkS s) h.list) : GoBOk P W0 (goBOf FT (aeB P FT n)) := by
  intro f args h k e
  unfold goBOf at e
  split at e
  · rename_i ef hf
    simp only [Bool.and_eq_true, Nat.ble_eq] at e
    obtain ⟨q, e⟩ := e
    obtain ⟨fn, hs, h1, h2, h3⟩ := hft f _ hf
    simp only [eFunc, Option.bind_eq_some_iff, Option.map_eq_some_iff] at h3
    obtain ⟨af, h3, c, hc, rfl⟩ := h3
    refine acalls_of h1 h2 h3 q ?_
    rw [← mkS_initT]
    refine ih c af.code _ _ _ _ hc e fun x s' h' e2 => ?_
    cases x with
    | exit i => cases e2
    | _ =>
      simp only at e2
      split at e2
      · rename_i r hr
        have := resE_ok hr
        simp only [retQ, this]
        exact ⟨h', rfl, e2⟩
      · cases e2
  · rename_i p hf
    obtain ⟨r, h', e1, e2⟩ := optB_some e
    exact (hft f _ hf _ _ _ _ e1).mono fun r' H' ⟨hr, hH⟩ => by subst hr; exact ⟨h', hH, e2⟩
  · cases e
theorem aeB_ok (hft : FTOk P W0 FT) : ∀ (n : Nat) (c : ECode) (ac : ACode) (s : Tr AV) (h : EH) (k : AExit → Tr AV → EH → Bool) (Q : AQ), toE ac = some c → aeB P FT n c s h k = true → (∀ x s' h', k x s' h' = true → Q x (mkS s') h'.list) → awp P W0 ac Q (mkS s) h.list
  | 0, _, _, _, _, _, _, _, e, _ => by cases e
  | n + 1, c, ac, s, h, k, Q, hc, e, hk => by
    have ih := aeB_ok hft n
    have hgb := goBOf_ok hft ih
    have hgo : GoOk P W0 (goOf P FT (ae P FT n)) := goOf_ok hft (fun c ac s s' h h' x Q => ae_ok hft n c ac s s' h h' x Q)
    cases ac with
    | skip => cases hc; exact hk _ _ _ e
    | exit id => cases hc; exact hk _ _ _ e
    | ret => cases hc; exact hk _ _ _ e
    | no => cases hc; cases e
    | rangef N f ps asg body => cases hc; cases e
    | ops l => cases hc; exact evOpsB_ok hgo hgb (fun s h => hk .normal s h) e
    | draw l after pn pubs =>
      simp only [toE] at hc
      split at hc
      · rename_i hp
        cases hc
        simp only [aeB] at e
        split at e
        · rename_i s1 h1 hd
          exact draw_ok hgo hp hd (hk _ _ _ e)
        · cases e
      · cases hc; cases e
    | seq a b =>
      simp only [toE, Option.bind_eq_some_iff, Option.map_eq_some_iff] at hc
      obtain ⟨a', ha, b', hb, rfl⟩ := hc
      simp only [awp]
      refine ih a' a _ _ _ _ ha e fun x s' h' e2 => ?_
      cases x with
      | normal => exact ih b' b _ _ _ _ hb e2 hk
      | _ => exact hk _ _ _ e2
    | cond c x1 y1 =>
      simp only [toE, Option.bind_eq_some_iff, Option.map_eq_some_iff] at hc
      obtain ⟨a', ha, b', hb, rfl⟩ := hc
      simp only [aeB] at e
      simp only [awp]
      split at e
      · rename_i b hcb
        cases b with
        | true => rw [sel_true] at e; simp only [hcb]; exact ih a' x1 _ _ _ _ ha e hk
        | false => rw [sel_false] at e; simp only [hcb]; exact ih b' y1 _ _ _ _ hb e hk
      · cases e
    | block id c =>
      simp only [toE, Option.map_eq_some_iff] at hc
      obtain ⟨a', ha, rfl⟩ := hc
      simp only [awp]
      refine ih a' c _ _ _ _ ha e fun x s' h' e2 => ?_
      cases x with
      | exit i =>
        simp only at e2
        rw [sel_eq] at e2
        simp only [AQ.inBlock]
        split at e2
        · rename_i q
          rw [if_pos (by simpa using q)]; exact hk _ _ _ e2
        · rename_i q
          rw [if_neg (by simpa using q)]; exact hk _ _ _ e2
      | _ => exact hk _ _ _ e2
    | loop c =>
      simp only [toE, Option.map_eq_some_iff] at hc
      obtain ⟨a', ha, rfl⟩ := hc
      simp only [awp]
      refine ⟨fun m st H => m ≤ n + 1 ∧ ∃ s h, st = mkS s ∧ H = h.list ∧ aeB P FT m (.loop a') s h k = true, n + 1, ⟨Nat.le_refl _, s, h, rfl, rfl, e⟩, ?_⟩
      rintro m st H ⟨hm, s, h, rfl, rfl, e⟩
      cases m with
      | zero => cases e
      | succ m =>
        refine aeB_ok hft m a' c _ _ _ _ ha e fun x s' h' e2 => ?_
        cases x with
        | normal => exact ⟨m, by omega, by omega, s', h', rfl, rfl, e2⟩
        | _ => exact hk _ _ _ e2
/-- A call of trees that was reckoned every way. -/
noncomputable def waysRun (P : Program) (FT : Nat → Option EEnt) (n : Nat) (f : FuncId) (args : List AV) (lit : AV) : Bool :=
  args.all (treeF 100) && treeF 100 lit && goBOf FT (aeB P FT n) f args ⟨.e, 0⟩ fun r _ => sameU 1000 lit r
theorem ways_knows {P : Program} {FT : Nat → Option EEnt} (hft : ∀ W, FTOk P W FT) {n : Nat} {f : FuncId} {args : List AV} {lit : AV} (e : waysRun P FT n f args lit = true) : Knows P f args lit := by
  intro W0 H
  unfold waysRun at e
  simp only [Bool.and_eq_true, List.all_eq_true] at e
  obtain ⟨⟨h1, h2⟩, e⟩ := e
  refine ACalls.alone (na := 100) (nr := 100) h1 h2 (fun W1 => ?_) H
  have hc := goBOf_ok (hft W1) (aeB_ok (hft W1) n) _ _ _ _ e
  refine ⟨hc.1, fun G w vs hi hv => (hc.2 G w vs hi hv).mono fun e w' ⟨v, r', H', G', e1, hq, hn, hi', hv'⟩ => ?_⟩
  obtain ⟨h', _, hr⟩ := hq
  exact ⟨v, lit, H', G', e1, rfl, hn, hi', sameU_rel _ hr hv'⟩
end
end Go.Qa
