/- The seat's table: which slots make boxes, and the table with records. -/
import Derived.Test.YtanfmlmcddanjaaGreatDoorRQaMemo
import Derived.Test.YtanfmlmcddanjaaGreatDoorRProg
import Derived.Test.YtanfmlmcddanjaaGreatDoorRPlJ
set_option linter.all false
namespace Go.Proofs.YtanfmlmcddanjaaGreatDoorR
open Go Go.Qa

/-- The copies of slices are boxes. -/
noncomputable def hsT (f : Nat) : List Nat :=
  sel (Nat.beq f 54 || Nat.beq f 79 || Nat.beq f 80 || Nat.beq f 380 || Nat.beq f 381 || Nat.beq f 382 || Nat.beq f 385 || Nat.beq f 495 || Nat.beq f 496) [15] ([])
theorem join_enters : Enters Tryz.prog 265 := Enters.of Tryz.func265 (by kernel_rfl) (by kernel_rfl)
/-- What is known of functions otherwise than by their code. -/
noncomputable def primT (M : List (Nat × List (List AV × AV))) (f : Nat) : Option (List AV → EH → Option (AV × EH)) := sel (Nat.beq f 265) (some joinP) (memoT M f)
noncomputable def FT (M : List (Nat × List (List AV × AV))) : Nat → Option EEnt := tableOf Tryz.prog hsT (primT M)
def Known (M : List (Nat × List (List AV × AV))) : Prop := ∀ m ∈ M, ∀ p ∈ m.2, Knows Tryz.prog m.1 p.1 p.2
theorem FT_ok {M : List (Nat × List (List AV × AV))} (h : Known M) (W : World) : FTOk Tryz.prog W (FT M) := by
  refine tableOf_ok fun f p hp => ?_
  unfold primT at hp
  rw [sel_eq] at hp
  split at hp
  · rename_i q
    cases hp
    rw [Nat.beq_eq] at q
    subst q
    exact joinP_ok join_enters Tryz.strings_Join_none fun bk o c xs sep w h1 h2 h3 h4 h5 => Tryz.strings_Join bk o c xs sep w h1 h2 h3 h4 h5
  · exact memoT_ok h f p hp
theorem known_nil : Known [] := fun m hm => by cases hm
theorem known_cons {f : Nat} {es : List (List AV × AV)} {M : List (Nat × List (List AV × AV))} (h : ∀ p ∈ es, Knows Tryz.prog f p.1 p.2) (k : Known M) : Known ((f, es) :: M) := fun m hm => by
  rcases List.mem_cons.1 hm with rfl | q
  · exact h
  · exact k m q
theorem knows_nil {f : Nat} : ∀ p ∈ ([] : List (List AV × AV)), Knows Tryz.prog f p.1 p.2 := fun p hp => by cases hp
theorem knows_cons {f : Nat} {a : List AV} {r : AV} {es : List (List AV × AV)} (h : Knows Tryz.prog f a r) (k : ∀ p ∈ es, Knows Tryz.prog f p.1 p.2) : ∀ p ∈ (a, r) :: es, Knows Tryz.prog f p.1 p.2 := fun p hp => by
  rcases List.mem_cons.1 hp with rfl | q
  · exact h
  · exact k p q
noncomputable def run (M : List (Nat × List (List AV × AV))) (f : Nat) (args : List AV) (lit : AV) : Bool := memoRun Tryz.prog (FT M) 100000 f args lit
theorem run_knows {M : List (Nat × List (List AV × AV))} (h : Known M) {f : Nat} {args : List AV} {lit : AV} (e : run M f args lit = true) : Knows Tryz.prog f args lit := memo_knows (FT_ok h) e
noncomputable def call (M : List (Nat × List (List AV × AV))) (f : Nat) (args : List AV) : Option (AV × EH) := goOf Tryz.prog (FT M) (ae Tryz.prog (FT M) 100000) true f args ⟨.e, 0⟩
end Go.Proofs.YtanfmlmcddanjaaGreatDoorR
