/- DebugNils answers true, for every argument, in every world. -/
import Derived.Test.YtanfmlmcddanjaaGreatDoorRPlD
import Derived.Test.YtanfmlmcddanjaaGreatDoorRQaLaw
import Derived.Test.YtanfmlmcddanjaaGreatDoorRQaC
set_option linter.all false
namespace Go.Proofs.YtanfmlmcddanjaaGreatDoorR
open Go Go.Qa Go.RowKit

def mAW : Nat × List (List AV × AV) := (5, [([], .bool true)])
theorem k_aw : Known [mAW] := known_cons (knows_cons awake knows_nil) known_nil
/-- The ways: c: the text is long; g: it is not; d: the unit's name is long. -/
noncomputable def waysT (c g d : Bool) : Bool := (sel g (sel g (sel g (sel g (sel g (sel g (sel g (sel c true (sel d true true)) (sel c true false)) (sel g false (sel c true false))) (sel g false (sel g false (sel c true false)))) (sel g false (sel g false (sel g false (sel c true false))))) (sel g false (sel g false (sel g false (sel g false (sel c true false)))))) (sel g false (sel g false (sel g false (sel g false (sel g false (sel c true false))))))) (sel g (sel g false (sel g false (sel g false (sel g false (sel g false (sel c true false)))))) (sel g false (sel g false (sel g false (sel g false (sel g false (sel c true false))))))))
theorem waysT_true (c d : Bool) : waysT c (c == false) d = true := by cases c <;> cases d <;> rfl
theorem r_nils (a b : Int) (u s : List UInt8) : treeRun Tryz.prog (FT [mAW]) 1000 3 [.agg [.int .i64 a, .int .i64 b, .str u, .str s]] (.bool true) = waysT (Nat.blt 200 s.length) (Nat.blt 200 s.length == false) (Nat.blt 100 u.length) := by kernel_rfl
theorem nils_knows (a b : Int) (u s : List UInt8) : Knows Tryz.prog 3 [.agg [.int .i64 a, .int .i64 b, .str u, .str s]] (.bool true) := tree_knows (FT_ok k_aw) rfl rfl ((r_nils a b u s).trans (waysT_true _ _))
theorem nils_calls (a b : Int) (u s : ByteArray) (hu : u.size ≤ maxLen) (hs : s.size ≤ maxLen) (W : World) : Calls Tryz.prog 3 #[.agg #[.int .i64 a, .int .i64 b, .string u, .string s]] W fun e w' => e = .returned (.bool true) ∧ Below W.heap.size W w' := by
  obtain ⟨⟨lu⟩⟩ := u
  obtain ⟨⟨ls⟩⟩ := s
  refine (nils_knows a b lu ls).calls_true W (vs := [.agg #[.int .i64 a, .int .i64 b, .string ⟨lu.toArray⟩, .string ⟨ls.toArray⟩]]) (VRels.cons (.agg _ [.int .i64 a, .int .i64 b, .string ⟨lu.toArray⟩, .string ⟨ls.toArray⟩] rfl (fun j hj => ?_)) (VRels.nil _))
  rcases j with _ | _ | _ | _ | j
  · exact .int .i64 a
  · exact .int .i64 b
  · exact .str lu hu
  · exact .str ls hs
  · exact absurd hj (by simp)
end Go.Proofs.YtanfmlmcddanjaaGreatDoorR
