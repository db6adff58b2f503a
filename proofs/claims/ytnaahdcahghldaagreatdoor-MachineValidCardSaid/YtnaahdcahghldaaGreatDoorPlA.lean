/- The seat's table: which slots make boxes, and the table with records. -/
import Derived.Test.YtnaahdcahghldaaGreatDoorQs11
import Derived.Test.YtnaahdcahghldaaGreatDoorProg
import Derived.Test.YtnaahdcahghldaaGreatDoorPlJ
set_option linter.all false
namespace Go.Proofs.YtnaahdcahghldaaGreatDoor
open Go Go.Qa

/-- The copies of slices are boxes. -/
noncomputable def hsT (f : Nat) : List Nat :=
  sel (Nat.beq f 358) [138] (sel (Nat.beq f 217) [78] (sel (Nat.beq f 35 || Nat.beq f 113 || Nat.beq f 118 || Nat.beq f 163 || Nat.beq f 164 || Nat.beq f 165 || Nat.beq f 168 || Nat.beq f 208 || Nat.beq f 220 || Nat.beq f 286 || Nat.beq f 287 || Nat.beq f 351) [15] ([])))
theorem join_enters : Enters Tryz.prog 245 := Enters.of Tryz.func245 (by kernel_rfl) (by kernel_rfl)
/-- What is known of functions otherwise than by their code. -/
noncomputable def primT (M : List (Nat × List (List AV × AV))) (f : Nat) : Option (List AV → EH → Option (AV × EH)) := sel (Nat.beq f 245) (some joinP) (memoT M f)
noncomputable def FT (M : List (Nat × List (List AV × AV))) : Nat → Option EEnt := tableOf Tryz.prog hsT (primT M)
def Known (M : List (Nat × List (List AV × AV))) : Prop := ∀ m ∈ M, ∀ p ∈ m.2, Knows Tryz.prog m.1 p.1 p.2
theorem FT_ok {M : List (Nat × List (List AV × AV))} (h : Known M) (W : World) : FTOk Tryz.prog W (FT M) := by
  refine tableOf_ok fun f p hp => ?_
  unfold primT at hp
  rw [sel_eq] at hp
  split at hp
  · rename_i q
    cases hp
    rw [Nat.beq_eq] at q
    subst q
    exact joinP_ok join_enters Tryz.strings_Join_none fun bk o c xs sep w h1 h2 h3 h4 h5 => Tryz.strings_Join bk o c xs sep w h1 h2 h3 h4 h5
  · exact memoT_ok h f p hp
theorem known_nil : Known [] := fun m hm => by cases hm
theorem known_cons {f : Nat} {es : List (List AV × AV)} {M : List (Nat × List (List AV × AV))} (h : ∀ p ∈ es, Knows Tryz.prog f p.1 p.2) (k : Known M) : Known ((f, es) :: M) := fun m hm => by
  rcases List.mem_cons.1 hm with rfl | q
  · exact h
  · exact k m q
theorem knows_nil {f : Nat} : ∀ p ∈ ([] : List (List AV × AV)), Knows Tryz.prog f p.1 p.2 := fun p hp => by cases hp
theorem knows_cons {f : Nat} {a : List AV} {r : AV} {es : List (List AV × AV)} (h : Knows Tryz.prog f a r) (k : ∀ p ∈ es, Knows Tryz.prog f p.1 p.2) : ∀ p ∈ (a, r) :: es, Knows Tryz.prog f p.1 p.2 := fun p hp => by
  rcases List.mem_cons.1 hp with rfl | q
  · exact h
  · exact k p q
noncomputable def run (M : List (Nat × List (List AV × AV))) (f : Nat) (args : List AV) (lit : AV) : Bool := memoRun Tryz.prog (FT M) 100000 f args lit
theorem run_knows {M : List (Nat × List (List AV × AV))} (h : Known M) {f : Nat} {args : List AV} {lit : AV} (e : run M f args lit = true) : Knows Tryz.prog f args lit := memo_knows (FT_ok h) e
noncomputable def call (M : List (Nat × List (List AV × AV))) (f : Nat) (args : List AV) : Option (AV × EH) := goOf Tryz.prog (FT M) (ae Tryz.prog (FT M) 100000) true f args ⟨.e, 0⟩
/-! ### With calls known at a whole heap, and calls known of rows for boxes -/
noncomputable def heapT : List (Nat × List HRec) → Nat → Option (List AV → EH → Option (AV × EH)) → Option (List AV → EH → Option (AV × EH))
  | [], _, d => d
  | m :: t, f, d => sel (Nat.beq f m.1) (some (heapP m.2)) (heapT t f d)
noncomputable def boxT : List (Nat × List (List AV × AV)) → Nat → Option (List AV → EH → Option (AV × EH)) → Option (List AV → EH → Option (AV × EH))
  | [], _, d => d
  | m :: t, f, d => sel (Nat.beq f m.1) (some (boxP m.2)) (boxT t f d)
def OkP (d : Nat → Option (List AV → EH → Option (AV × EH))) : Prop := ∀ W f p, d f = some p → ∀ args h r h', p args h = some (r, h') → ACalls Tryz.prog W f args h.list fun r' H' => r' = r ∧ H' = h'.list
theorem heapT_ok : ∀ {H : List (Nat × List HRec)}, (∀ m ∈ H, ∀ c ∈ m.2, KnowsH Tryz.prog m.1 c) → ∀ {d : Nat → Option (List AV → EH → Option (AV × EH))}, OkP d → OkP fun f => heapT H f (d f)
  | [], _, d, hd => hd
  | m :: t, hk, d, hd => fun W f p hp => by
    simp only [heapT] at hp
    rw [sel_eq] at hp
    split at hp
    · rename_i q
      cases hp
      rw [Nat.beq_eq] at q
      subst q
      exact heapP_ok (hk m (by simp))
    · exact heapT_ok (fun m hm => hk m (by simp [hm])) hd W f p hp
theorem boxT_ok : ∀ {H : List (Nat × List (List AV × AV))}, (∀ m ∈ H, ∀ c ∈ m.2, Knows Tryz.prog m.1 c.1 c.2) → ∀ {d : Nat → Option (List AV → EH → Option (AV × EH))}, OkP d → OkP fun f => boxT H f (d f)
  | [], _, d, hd => hd
  | m :: t, hk, d, hd => fun W f p hp => by
    simp only [boxT] at hp
    rw [sel_eq] at hp
    split at hp
    · rename_i q
      cases hp
      rw [Nat.beq_eq] at q
      subst q
      exact boxP_ok (hk m (by simp))
    · exact boxT_ok (fun m hm => hk m (by simp [hm])) hd W f p hp
noncomputable def primH (H : List (Nat × List HRec)) (B M : List (Nat × List (List AV × AV))) (f : Nat) : Option (List AV → EH → Option (AV × EH)) := heapT H f (boxT B f (primT M f))
noncomputable def FTH (H : List (Nat × List HRec)) (B M : List (Nat × List (List AV × AV))) : Nat → Option EEnt := tableOf Tryz.prog hsT (primH H B M)
def KnownH (H : List (Nat × List HRec)) : Prop := ∀ m ∈ H, ∀ c ∈ m.2, KnowsH Tryz.prog m.1 c
theorem prim_ok {M : List (Nat × List (List AV × AV))} (h : Known M) : OkP (primT M) := by
  intro W f p hp
  unfold primT at hp
  rw [sel_eq] at hp
  split at hp
  · rename_i q
    cases hp
    rw [Nat.beq_eq] at q
    subst q
    exact joinP_ok join_enters Tryz.strings_Join_none fun bk o c xs sep w h1 h2 h3 h4 h5 => Tryz.strings_Join bk o c xs sep w h1 h2 h3 h4 h5
  · exact memoT_ok h f p hp
theorem FTH_ok {H : List (Nat × List HRec)} {B M : List (Nat × List (List AV × AV))} (h1 : KnownH H) (h2 : Known B) (h3 : Known M) (W : World) : FTOk Tryz.prog W (FTH H B M) := tableOf_ok fun f p hp => heapT_ok h1 (boxT_ok h2 (prim_ok h3)) W f p hp
theorem knownH_nil : KnownH [] := fun m hm => by cases hm
theorem knownH_one {f : Nat} {c : HRec} {H : List (Nat × List HRec)} (h : KnowsH Tryz.prog f c) (k : KnownH H) : KnownH ((f, [c]) :: H) := fun m hm => by
  rcases List.mem_cons.1 hm with rfl | q
  · exact fun c' hc => by rw [List.mem_singleton.1 hc]; exact h
  · exact k m q
end Go.Proofs.YtnaahdcahghldaaGreatDoor
