/- ScopeReads: whatever the argument, true; the argument reads as it did. The package variables that the row lists hold what it lists. -/
import Derived.Test.YtnpkhnlcpeebcaaGreatDoorPsFReads
import Derived.Test.YtnpkhnlcpeebcaaGreatDoorQs15
import Derived.ChangeMaps5
set_option linter.all false
namespace Go.Proofs.YtnpkhnlcpeebcaaGreatDoor
open Go.ChangeShapes Go.WideShapes Go.ChangeAt Go.RowKit
open Go.ChangeMaps (open_string shut_string)

theorem var_lt {W : World} {n : String} {g : Nat} {cs : Array Value} (hg : Tryz.prog.globalNamed n = some g) (h : W.var? Tryz.prog n = some cs) : g < W.heap.size := by
  unfold World.var? at h
  rw [hg] at h
  simp only [Option.bind_some] at h
  refine Decidable.by_contra fun c => ?_
  rw [Array.getElem?_eq_none (Nat.le_of_not_lt c)] at h
  cases h
theorem laid_size {W : World} (hl : laidMet Tryz.prog Rows.scopeReadsRow.laid W) : 8 ≤ W.heap.size := by
  obtain ⟨ps, ⟨g0, t0, cs0, f0, p0, q0, hg0, ht0, hv0, hd0, _, e0⟩, _, hrows⟩ := hl.tail
  exact var_lt (g := 7) (by kernel_rfl) hv0
set_option maxRecDepth 100000 in
theorem liftedReads (os : Os) (started : os.Started) (H : Type) (enc : TypeId × Value → H) :
    ReturnsInHanded {} Tryz.checked os 4 .any (fun w args => (Rows.scopeReadsSpec.pre enc Tryz.prog Tryz.f4 Rows.scopeReadsRow.domain false w args ∧ laidMetH Tryz.prog Rows.scopeReadsRow.laid w) ∧ sizedMet enc Tryz.prog Tryz.f4 (OpenSpec.ofChange Rows.scopeReadsSpec) false w args)
      (Rows.scopeReadsSpec.post enc Tryz.prog Tryz.f4 false true false false) := by
  refine change_both (C := Tryz.checked) (X := fun w _ => laidMetH Tryz.prog Rows.scopeReadsRow.laid w) (fun _ _ _ hh h => h.of_heap hh) ownReads started (by kernel_rfl) Tryz.func4
    (ChangeSpec.witness_shaped (enc := enc) (C := Tryz.checked) (os := os) (X := fun w _ => laidMetH Tryz.prog Rows.scopeReadsRow.laid w) false (World.laidAll Tryz.prog os Rows.scopeReadsRow.laid) #[.string ⟨#[]⟩] 8 (World.laidAll_os _ _ _)
      (World.shaped_of_ZipB (zipReads os) (tailReads os)) (wideReads os) (preReads os enc) (sizedReads os enc)
      (by rw [MakeChecks.laidMetH_plain _ _ _ (by kernel_rfl)]; exact laidMet_laidAll _ (fitsReads os) (ifacesReads os))) ?_
  intro W base args ds gs before hval0 hW hL hsh
  have hval : ∀ (j : Nat) t v, Tryz.f4.params[j]? = some t → args[j]? = some v → Value.okWide Tryz.prog W .any base t v := hval0
  have hlaid : laidMet Tryz.prog Rows.scopeReadsRow.laid W := by
    have h1 : laidMetH Tryz.prog Rows.scopeReadsRow.laid W := hL
    rwa [MakeChecks.laidMetH_plain _ _ _ (by kernel_rfl)] at h1
  have ws : WS W := ws_of hsh hlaid (laid_size hlaid)
  have hW' := hW
  obtain ⟨p, q, hA0, hV, rfl, _, _⟩ := hW
  have hA : DataW.TrodAll enc Tryz.prog W 0 (fun _ => true) true Tryz.f4.params.toList args.toList ds p := hA0
  rw [Tryz.params4] at hA hval
  obtain ⟨v0, d0, rfl, rfl, h0⟩ := trodAll_one hA
  obtain ⟨rfl, rfl⟩ := trodVars_none hV
  obtain ⟨s, rfl, rfl, rfl, hs⟩ := open_string Tryz.underlying9 (hval 0 9 v0 rfl rfl) h0
  simp only [List.append_nil] at hW'
  refine (reads_calls s hs W ws).mono fun e W' ⟨he, hb⟩ => ?_
  subst he
  exact ⟨_, rfl, Go.Qa.post_nil hW' (fun _ _ _ => trodAll_mk1 (shut_bool Tryz.underlying4 _)) (fun _ => trodAll_mk1 (shut_string (s := s) Tryz.underlying9 hs)) (fun _ => rfl) hb.frame (ok_one (by kernel_rfl) rfl (okWide_bool_mk Tryz.underlying4 _))⟩
theorem saidReads : Rows.ScopeReadsSaid :=
  OpenClaim.holds_of_wide 4 Tryz.f4 rfl rfl rfl rfl rfl rfl rfl ⟨rfl, rfl, rfl, rfl, rfl⟩ rfl rfl rfl rfl rfl funcReads Tryz.func4 closedReads
    (of_decide_eq_true (by kernel_rfl)) (by unfold Func.isWrapper; first | (rw [if_pos (by decide +kernel)]; kernel_rfl) | (rw [if_neg (by decide +kernel)]; exact ⟨rfl, rfl⟩))
    (fun os started H enc _ => liftedReads os started H enc)
end Go.Proofs.YtnpkhnlcpeebcaaGreatDoor
