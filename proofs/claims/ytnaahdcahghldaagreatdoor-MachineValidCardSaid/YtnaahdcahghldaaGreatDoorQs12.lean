/- The abstract machine: from a known call to the model's call; what a law's row wants of a call that answers true and changes nothing. -/
import Derived.Test.YtnaahdcahghldaaGreatDoorQs10
import Derived.ProofKit
import Derived.OpenShut
set_option linter.all false
namespace Go.Qa
open Go Go.RowKit Go.ChangeShapes Go.WideShapes Go.ChangeAt

/-- What is known of trees holds of the model's call in every world. -/
theorem Knows.calls {P : Program} {f : FuncId} {args : List AV} {r : AV} (h : Knows P f args r) (W : World) {vs : List Value} (hv : VRels ⟨fun _ => none, fun _ _ => none, fun _ _ => none, fun _ => none⟩ args vs) :
    Calls P f vs.toArray W fun e w' => ∃ v G, e = .returned v ∧ VRel G r v ∧ Below W.heap.size W w' := by
  have hi0 : HInv W [] ⟨fun _ => none, fun _ _ => none, fun _ _ => none, fun _ => none⟩ W :=
    { base := Below.refl _ _, lt := fun _ _ e => (by cases e), imm := fun _ _ _ e => (by cases e), bxs := fun _ _ e => (by cases e), inj := fun _ _ _ e => (by cases e), ats := fun _ _ _ _ e => (by cases e), obj := fun i o e => (by simp at e), cur := fun t _ n _ _ _ _ e => (by simp at e) }
  refine ((h W []).2 _ W vs hi0 hv).mono fun e w' ⟨v, r', H', G', e1, hq, hn, hi', hv'⟩ => ?_
  obtain ⟨rfl, _⟩ := hq
  exact ⟨v, G', e1, hv', hi'.base⟩
theorem Knows.calls_true {P : Program} {f : FuncId} {args : List AV} (h : Knows P f args (.bool true)) (W : World) {vs : List Value} (hv : VRels ⟨fun _ => none, fun _ _ => none, fun _ _ => none, fun _ => none⟩ args vs) :
    Calls P f vs.toArray W fun e w' => e = .returned (.bool true) ∧ Below W.heap.size W w' :=
  (h.calls W hv).mono fun e w' ⟨v, G, e1, hr, hb⟩ => ⟨by cases hr; exact e1, hb⟩

variable {H : Type} {enc : TypeId × Value → H} {P : Program}
/-- Behind a call that was handed no address: whatever blocks it made. -/
theorem post_nil {f : Func} {s : ChangeSpec} {apart fresh handsOn again : Bool} {W W' : World} {args : Array Value} {v : Value} {ds gs : List (DataW H)}
    (hW : DataW.Whole enc P f.params.toList s.vars apart W args.toList ds gs [])
    (hres : ∀ (b : Nat) (sp : Nat → Bool) (hd : Bool), DataW.TrodAll enc P W' b sp hd f.resultTypes.toList (v.resultList f.resultTypes.size) (s.fn H (ds ++ gs)).results [])
    (hargs : ∀ sp : Nat → Bool, DataW.TrodAll enc P W' 0 sp true f.params.toList args.toList (s.fn H (ds ++ gs)).args [])
    (hvars : ∀ sp : Nat → Bool, DataW.TrodVars enc P W' sp s.vars (s.fn H (ds ++ gs)).vars [])
    (hk : ∀ may : MemPlace → Prop, W.keptBut W' may)
    (hok : ∀ (j : Nat) (t : TypeId) (r : Value), f.resultTypes[j]? = some t → (v.resultList f.resultTypes.size)[j]? = some r → Value.okWide P W' .any 0 t r) :
    s.post enc P f apart fresh handsOn again W args v W' := by
  refine ⟨ds, gs, [], [], [], [], hW, hres _ _ _, hargs _, hvars _, hk _, fun _ => ?_⟩
  refine ⟨hok, _, _, ([] ++ []) ++ [], ⟨[] ++ [], [], trodAll_append (hargs _) (hres _ _ _), hvars _, rfl, ?_, ?_⟩, ?_⟩
  · intro b off hp; simp at hp
  · intro ha; simp
  · intro p hp _; simp at hp
end Go.Qa
