/- PlainNil and PlainNames answer true, for every argument, in every world. -/
import Derived.Test.YtckhcjhpdgadfaaGreatDoorPlD
import Derived.Test.YtckhcjhpdgadfaaGreatDoorQaLaw
import Derived.Test.YtckhcjhpdgadfaaGreatDoorQaC
set_option linter.all false
namespace Go.Proofs.YtckhcjhpdgadfaaGreatDoor
open Go Go.Qa Go.RowKit

def mAW : Nat × List (List AV × AV) := (7, [([], .bool true)])
theorem k_aw : Known [mAW] := known_cons (knows_cons awake knows_nil) known_nil
theorem r_nil (s : List UInt8) : treeRun Tryz.prog (FT [mAW]) 1000 4 [.str s] (.bool true) = true := by kernel_rfl
theorem nil_knows (s : List UInt8) : Knows Tryz.prog 4 [.str s] (.bool true) := tree_knows (FT_ok k_aw) rfl rfl (r_nil s)
theorem r_names_small : ((List.range 101).all fun m => run [mAW] 3 [.int .i64 (.ofNat m)] (.bool true)) = true := by kernel_rfl
theorem r_names_big (k : Nat) : run [mAW] 3 [.int .i64 (.ofNat (k + 101))] (.bool true) = true := by kernel_rfl
theorem r_names_neg0 : run [mAW] 3 [.int .i64 (.negSucc 0)] (.bool true) = true := by kernel_rfl
theorem r_names_neg (k : Nat) : run [mAW] 3 [.int .i64 (.negSucc (k + 1))] (.bool true) = true := by kernel_rfl
theorem names_knows (n : Int) : Knows Tryz.prog 3 [.int .i64 n] (.bool true) := by
  refine run_knows k_aw ?_
  cases n with
  | ofNat m =>
    by_cases h : m < 101
    · have := List.all_eq_true.1 r_names_small m (List.mem_range.2 h)
      exact this
    · obtain ⟨k, rfl⟩ : ∃ k, m = k + 101 := ⟨m - 101, by omega⟩
      exact r_names_big k
  | negSucc m =>
    cases m with
    | zero => exact r_names_neg0
    | succ k => exact r_names_neg k

theorem nil_calls (s : ByteArray) (hs : s.size ≤ maxLen) (W : World) : Calls Tryz.prog 4 #[.string s] W fun e w' => e = .returned (.bool true) ∧ Below W.heap.size W w' := by
  obtain ⟨⟨l⟩⟩ := s
  exact (nil_knows l).calls_true W (vs := [.string ⟨l.toArray⟩]) (VRels.cons (VRel.str l hs) (VRels.nil _))
theorem names_calls (n : Int) (W : World) : Calls Tryz.prog 3 #[.int .i64 n] W fun e w' => e = .returned (.bool true) ∧ Below W.heap.size W w' :=
  (names_knows n).calls_true W (vs := [.int .i64 n]) (VRels.cons (VRel.int .i64 n) (VRels.nil _))
end Go.Proofs.YtckhcjhpdgadfaaGreatDoor
