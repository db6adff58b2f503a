/- MachineValid answers true, for every argument, in every world. -/
import Derived.Test.YtnaahdcahghldaaGreatDoorPlW
import Derived.Test.YtnaahdcahghldaaGreatDoorQs12
set_option linter.all false
set_option maxRecDepth 100000
namespace Go.Proofs.YtnaahdcahghldaaGreatDoor
open Go Go.Qa Go.Proofs Go.RowKit
theorem eqs_bool {h : EH} {K : AV → Prop} (n a b : Bool) : xW (.eqs .bool n (.c (.bool a)) (.c (.bool b))) h K = K (.bool (if n then !(a == b) else (a == b))) := by rw [eqs_eq]; rfl
def letB (t l : Int) : Bool := decide (0 ≤ t) && decide (t ≤ 100) && decide (0 ≤ l) && decide (l ≤ 64)
def opt (a b c d : Bool) (t l : Int) : AV := .agg [.bool a, .bool b, .bool c, .bool d, .int .i64 t, .int .i64 l]
section
variable {W0 : World} {h : EH} {k : AV → EH → Prop} {a b c d : Bool} {t l : Int}
theorem c4 (hk : k (.bool (letB t l)) h) : SCalls Tryz.prog W0 4 [opt a b c d t l] h k := by
  refine SCalls.cut ?_
  refine W4_ok ?_
  unfold W4
  try simp (disch := omega) only [go_sem, ↓reduceIte, reduceCtorEq, Nat.reduceAdd, Nat.reduceSub, Nat.reduceLeDiff, Nat.reduceEqDiff, Int.reduceLE, Int.reduceLT, Int.reduceToNat, opt, one_bool, one_int]
  repeat refine And.intro (by omega) ?_
  refine and_x1 (b := ?_) (fun w1 J1 hJ1 => ?_) ?_; rotate_left
  · try simp only [go_sem] at w1
    try simp (disch := omega) only [go_sem, ↓reduceIte, reduceCtorEq, Nat.reduceAdd, Nat.reduceSub, Nat.reduceLeDiff, Nat.reduceEqDiff, Int.reduceLE, Int.reduceLT, Int.reduceToNat, opt, one_bool, one_int]
    repeat refine And.intro (by omega) ?_
    skip
    exact hJ1
  · skip
    refine and_x1 (b := ?_) (fun w2 J2 hJ2 => ?_) ?_; rotate_left
    · try simp only [go_sem] at w2
      try simp (disch := omega) only [go_sem, ↓reduceIte, reduceCtorEq, Nat.reduceAdd, Nat.reduceSub, Nat.reduceLeDiff, Nat.reduceEqDiff, Int.reduceLE, Int.reduceLT, Int.reduceToNat, opt, one_bool, one_int]
      repeat refine And.intro (by omega) ?_
      skip
      exact hJ2
    · skip
      refine and_x1 (b := ?_) (fun w3 J3 hJ3 => ?_) ?_; rotate_left
      · try simp only [go_sem] at w3
        try simp (disch := omega) only [go_sem, ↓reduceIte, reduceCtorEq, Nat.reduceAdd, Nat.reduceSub, Nat.reduceLeDiff, Nat.reduceEqDiff, Int.reduceLE, Int.reduceLT, Int.reduceToNat, opt, one_bool, one_int]
        repeat refine And.intro (by omega) ?_
        skip
        exact hJ3
      · skip
        try simp (disch := omega) only [go_sem, ↓reduceIte, reduceCtorEq, Nat.reduceAdd, Nat.reduceSub, Nat.reduceLeDiff, Nat.reduceEqDiff, Int.reduceLE, Int.reduceLT, Int.reduceToNat, opt, one_bool, one_int]
        exact cut_0 (by repeat first | exact EM.refl _ _ | assumption | refine EM.push ?_ | refine EM.setI ?_ (by simp) | refine EM.setN ?_ (by simp only [go_sem]; omega)) (.bool _) hk
theorem c5 (hk : k (.bool (letB t l)) h) : SCalls Tryz.prog W0 5 [opt a b c d t l] h k := by
  refine SCalls.cut ?_
  refine W5_ok ?_
  unfold W5
  try simp (disch := omega) only [go_sem, ↓reduceIte, reduceCtorEq, Nat.reduceAdd, Nat.reduceSub, Nat.reduceLeDiff, Nat.reduceEqDiff, Int.reduceLE, Int.reduceLT, Int.reduceToNat, opt, one_bool, one_int]
  repeat refine And.intro (by omega) ?_
  refine and_x1 (b := ?_) (fun w1 J1 hJ1 => ?_) ?_; rotate_left
  · try simp only [go_sem] at w1
    try simp (disch := omega) only [go_sem, ↓reduceIte, reduceCtorEq, Nat.reduceAdd, Nat.reduceSub, Nat.reduceLeDiff, Nat.reduceEqDiff, Int.reduceLE, Int.reduceLT, Int.reduceToNat, opt, one_bool, one_int]
    repeat refine And.intro (by omega) ?_
    skip
    exact hJ1
  · skip
    refine and_x1 (b := ?_) (fun w2 J2 hJ2 => ?_) ?_; rotate_left
    · try simp only [go_sem] at w2
      try simp (disch := omega) only [go_sem, ↓reduceIte, reduceCtorEq, Nat.reduceAdd, Nat.reduceSub, Nat.reduceLeDiff, Nat.reduceEqDiff, Int.reduceLE, Int.reduceLT, Int.reduceToNat, opt, one_bool, one_int]
      repeat refine And.intro (by omega) ?_
      skip
      exact hJ2
    · skip
      refine and_x1 (b := ?_) (fun w3 J3 hJ3 => ?_) ?_; rotate_left
      · try simp only [go_sem] at w3
        try simp (disch := omega) only [go_sem, ↓reduceIte, reduceCtorEq, Nat.reduceAdd, Nat.reduceSub, Nat.reduceLeDiff, Nat.reduceEqDiff, Int.reduceLE, Int.reduceLT, Int.reduceToNat, opt, one_bool, one_int]
        repeat refine And.intro (by omega) ?_
        skip
        exact hJ3
      · skip
        try simp (disch := omega) only [go_sem, ↓reduceIte, reduceCtorEq, Nat.reduceAdd, Nat.reduceSub, Nat.reduceLeDiff, Nat.reduceEqDiff, Int.reduceLE, Int.reduceLT, Int.reduceToNat, opt, one_bool, one_int]
        exact cut_0 (by repeat first | exact EM.refl _ _ | assumption | refine EM.push ?_ | refine EM.setI ?_ (by simp) | refine EM.setN ?_ (by simp only [go_sem]; omega)) (.bool _) hk
theorem c3 (hk : ∀ h', k (.bool true) h') : SCalls Tryz.prog W0 3 [opt a b c d t l] h k := by
  refine W3_ok ?_
  unfold W3
  try simp (disch := omega) only [go_sem, ↓reduceIte, reduceCtorEq, Nat.reduceAdd, Nat.reduceSub, Nat.reduceLeDiff, Nat.reduceEqDiff, Int.reduceLE, Int.reduceLT, Int.reduceToNat, opt, one_bool, one_int, eqs_bool]
  repeat refine And.intro (by omega) ?_
  refine ca_i rfl (c4 (a := a) (b := b) (c := c) (d := d) (t := t) (l := l) ?_)
  try simp (disch := omega) only [go_sem, ↓reduceIte, reduceCtorEq, Nat.reduceAdd, Nat.reduceSub, Nat.reduceLeDiff, Nat.reduceEqDiff, Int.reduceLE, Int.reduceLT, Int.reduceToNat, opt, one_bool, one_int, eqs_bool]
  repeat refine And.intro (by omega) ?_
  refine ca_i rfl (c5 (a := a) (b := b) (c := c) (d := d) (t := t) (l := l) ?_)
  try simp (disch := omega) only [go_sem, ↓reduceIte, reduceCtorEq, Nat.reduceAdd, Nat.reduceSub, Nat.reduceLeDiff, Nat.reduceEqDiff, Int.reduceLE, Int.reduceLT, Int.reduceToNat, opt, one_bool, one_int, eqs_bool]
  repeat refine And.intro (by omega) ?_
  refine ⟨_, (by intros; assumption), ?_⟩
  refine ca_i rfl (SCalls.of_knows awake ?_)
  exact ⟨rfl, hk _⟩
end
theorem valid_knows (a b c d : Bool) (t l : Int) (W0 : World) (H : AHeap) : ACalls Tryz.prog W0 3 [opt a b c d t l] [] fun r _ => r = .bool true := by
  have := c3 (W0 := W0) (h := ⟨.e, 0⟩) (k := fun r _ => r = .bool true) (a := a) (b := b) (c := c) (d := d) (t := t) (l := l) (fun _ => rfl)
  exact ACalls.mono this fun r H' ⟨h', _, q⟩ => q
theorem valid_law (a b c d : Bool) (t l : Int) : Knows Tryz.prog 3 [opt a b c d t l] (.bool true) := fun W0 H =>
  ACalls.alone (na := 3) (nr := 1) (fun x hx => by rw [List.mem_singleton.1 hx]; rfl) rfl (fun W1 => valid_knows a b c d t l W1 []) H
end Go.Proofs.YtnaahdcahghldaaGreatDoor
