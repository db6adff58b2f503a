/- What the debugger shows of one number. -/
import Derived.Test.YtanfmlmcddanjaaGreatDoorRPlJ
import Derived.Shelf.Strings.BuilderF
import Derived.Shelf.Strings.MapGrows
import Derived.WalkKit
import Derived.BigCall
import Derived.Test.YtanfmlmcddanjaaGreatDoorRQaEq
import Derived.Test.YtanfmlmcddanjaaGreatDoorRQaLaw
import Derived.Test.YtanfmlmcddanjaaGreatDoorRPlB
set_option linter.all false
namespace Go.Proofs.YtanfmlmcddanjaaGreatDoorR
open Go Go.RowKit Go.Proofs

/-- How many rounds are left. -/
def leftS (v : Value) : Nat := 1 - (Lib.intOf v).toNat
/-- The world in which the loop begins. -/
def startS (b o cap : Nat) (w : World) : World := (w.alloc (.cells #[.int .i64 1, .slice none 0 0, .slice (some ⟨b, o, none⟩) 1 cap] 62)).alloc (.cells #[.pointer none, .slice none 0 0] 106)

set_option maxHeartbeats 4000000 in
set_option maxRecDepth 100000 in
theorem shown_walk (hshow : ∀ w, Calls Tryz.prog 51 #[.agg #[.int .i64 1, .int .i64 3]] w fun e w' => e = .returned (.tuple #[.string ⟨#[51]⟩, .int .i64 0]) ∧ Below w.heap.size w w')
    (b o cap : Nat) (w : World) (hc : w.cell? ⟨b, o, none⟩ = some (.int .i64 3)) (hb : b < w.heap.size) :
    Calls Tryz.prog 24 #[.agg #[.int .i64 1, .slice none 0 0, .slice (some ⟨b, o, none⟩) 1 cap], .slice none 0 0] w fun e w' => e = .returned (.string ⟨#[51]⟩) ∧ Below w.heap.size w w' := by
  go_enter Tryz.func24, Tryz.ntmps24
  go_wp2
  go_loopw [12] (fun v12 wr => (v12 = .int .i64 0 ∧ wr = startS b o cap w) ∨ (v12 = .int .i64 1 ∧ Lib.IsBuilderF 106 5 (w.heap.size + 1) (w.heap.size + 1) (Lib.byteCells [51]) wr ∧ Below (w.heap.size + 1) (startS b o cap w) wr)) (fun v12 wr => leftS v12)
  case atStart => exact Or.inl ⟨rfl, rfl⟩
  case round =>
    rcases hrel with ⟨rfl, rfl⟩ | ⟨rfl, hI, hB⟩
    · have hcell : (startS b o cap w).cell? ⟨b, o, none⟩ = some (.int .i64 3) := by
        unfold startS
        rw [World.cell?_alloc_old _ _ _ (by simp; omega), World.cell?_alloc_old _ _ _ (by simp; omega)]; exact hc
      have hI0 : Lib.IsBuilderF 106 5 (w.heap.size + 1) (w.heap.size + 1) [] (startS b o cap w) := by
        have := Lib.IsBuilderF.of (Lib.fresh_isBuilder 106 5 (w.alloc (.cells #[.int .i64 1, .slice none 0 0, .slice (some ⟨b, o, none⟩) 1 cap] 62)))
        simpa [startS] using this
      unfold startS at hcell hI0 ⊢
      have hnil : ∀ W : World, (binOp .eql 66 (.slice none 0 0) (.slice none 0 0)).run Tryz.prog W = .ok (.bool true) W := fun W => by
        have u := Tryz.underlying66
        simp only [binOp, go_sem]
        rw [Sem.run_bind, Go.Qa.run_equal, Go.Qa.eqIn_sn _ u]
        rfl
      go_wp2_with (go_at_call 51; refine (hshow _).mono ?_)
      rintro e W1 ⟨rfl, hb1⟩
      have hI1 := hI0.below hb1
      go_wp2_with (go_at_call 49; refine (Any.Builder_WriteString_f (P := Tryz.prog) (ρ := Tryz.lays156_ren) { Tryz.lays156 with } Tryz.Builder_Extra_156 (w.heap.size + 1) (w.heap.size + 1) [] ⟨#[51]⟩ W1 hI1 (by rw [show (ByteArray.mk #[51]).size = 1 from rfl]; simp) (by have := hb1.size; simp at this; omega)).mono ?_)
      rintro e W2 ⟨rfl, hI2, hb2⟩
      go_wp2
      go_roundw
      case rel =>
        rw [List.nil_append, Lib.strCells_eq] at hI2
        refine Or.inr ⟨rfl, Or.inr hI2, ?_⟩
        exact (hb1.mono (by simp)).trans hb2
      case measure => simp [leftS, Lib.intOf]
    · have hsh : wr.cell? ⟨w.heap.size, 1, none⟩ = some (.slice none 0 0) := by
        rw [hB.cell (by simp)]
        unfold startS
        rw [World.cell?_alloc_old _ _ _ (by simp)]
        have hn : (w.alloc (.cells #[.int .i64 1, .slice none 0 0, .slice (some ⟨b, o, none⟩) 1 cap] 62)).heap[w.heap.size]? = some (.cells #[.int .i64 1, .slice none 0 0, .slice (some ⟨b, o, none⟩) 1 cap] 62) := Go.Qa.heap_push_new
        simp only [World.cell?, hn]
        rfl
      have hsz : w.heap.size + 2 ≤ wr.heap.size := by have := hB.size; simpa [startS] using this
      go_wp2_with (go_at_call 52; refine (Any.Builder_String_any_f (P := Tryz.prog) (ρ := Tryz.lays156_ren) { Tryz.lays156 with } Tryz.Builder_Extra_156 (w.heap.size + 1) (w.heap.size + 1) [51] wr hI (by omega)).mono ?_)
      rintro e W2 ⟨rfl, _, hb2⟩
      go_wp2
      go_ret
      refine ⟨rfl, ?_⟩
      have b0 : Below w.heap.size w (startS b o cap w) := ((Below.refl _ w).alloc (Nat.le_refl _) _).alloc (by simp) _
      exact b0.trans ((hB.mono (by simp)).trans (hb2.mono (by simp)))

open Go.Qa in
theorem shown_knows (hs : Knows Tryz.prog 51 [.agg [.int .i64 1, .int .i64 3]] sw) : Knows Tryz.prog 24 shA (.str [51]) := by
  have hshow : ∀ w, Calls Tryz.prog 51 #[.agg #[.int .i64 1, .int .i64 3]] w fun e w' => e = .returned (.tuple #[.string ⟨#[51]⟩, .int .i64 0]) ∧ Below w.heap.size w w' := fun w => by
    refine (hs.calls w (vs := [.agg #[.int .i64 1, .int .i64 3]]) (.cons (.agg _ [.int .i64 1, .int .i64 3] rfl (fun j hj => ?_)) (.nil _))).mono fun e w' ⟨v, G, e1, hr, hb⟩ => ⟨?_, hb⟩
    · rcases j with _ | _ | j
      · exact .int .i64 1
      · exact .int .i64 3
      · exact absurd hj (by simp)
    · rw [e1]
      unfold sw at hr
      cases hr with
      | tup _ vs hl h =>
        match vs, hl with
        | [a, b], _ =>
          have ha := h 0 (by simp)
          have hb := h 1 (by simp)
          simp at ha hb
          cases ha
          cases hb
          rfl
  intro W0 H
  refine ⟨Enters.of Tryz.func24 (by kernel_rfl) (by kernel_rfl), fun G w vs hi hv => ?_⟩
  unfold shA at hv
  obtain ⟨v1, vs1, rfl, r1, hv1⟩ := hv.head
  obtain ⟨v2, vs2, rfl, r2, hv2⟩ := hv1.head
  have := hv2.eq_nil
  subst this
  cases r2
  cases r1 with
  | agg _ us hl h =>
    match us, hl with
    | [a, b, c], _ =>
      have ha := h 0 (by simp)
      have hb := h 1 (by simp)
      have hc := h 2 (by simp)
      simp at ha hb hc
      cases ha
      cases hb
      cases hc with
      | row _ _ _ _ p cap cv hs1 he hm hvv hcap hx hf ho =>
        have hsp := hs1 (by simp)
        have hi0 := hi.imm _ _ _ (hm 0 0 (by simp) (by simp))
        have hlt := hi.immLt (hm 0 0 (by simp) (by simp))
        have hv0 := hvv 0 0 (by simp) (by simp)
        simp [AV.cells, AV.cells?, AV.one] at hv0
        generalize cv 0 0 = z at hv0 hi0
        cases hv0
        obtain ⟨blk, off, spot⟩ := p
        simp only at hsp
        subst hsp
        have hcell : w.cell? ⟨blk, off, none⟩ = some (.int .i64 3) := by simpa using hi0.2
        refine (shown_walk hshow blk off cap w hcell hlt).mono fun e w' ⟨e1, e2⟩ => ?_
        obtain ⟨f1, f2⟩ := frame_below hi e2
        exact ⟨_, _, _, G, e1, ⟨rfl, rfl⟩, f2, f1, .str [51] (by simp [maxLen])⟩
end Go.Proofs.YtanfmlmcddanjaaGreatDoorR
