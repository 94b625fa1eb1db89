/- Is a number within bounds? -/
import Derived.Test.YtblelojdboefjaaDoorF
import Derived.Test.YtblelojdboefjaaDoorM6
set_option maxRecDepth 100000
set_option linter.unusedVariables false
set_option linter.unusedSimpArgs false
namespace Go.Proofs.YtblelojdboefjaaDoor.R
open Go

theorem from_ok (n : Nat) (hn : Big + 1 ≤ n) (a b c : Int) : pcall env n 79 [pvSV (.i .i64 a), pvSV (.i .i64 b), pvSV (.i .i64 c)] [] = some ⟨pvSV (.b (decide (a ≥ b) && decide (a ≤ c))), []⟩ := by
  obtain ⟨m, rfl⟩ := ex_pred hn
  refine wq_eq (wq_pcall (fn := Tryd.f79) rfl rfl rfl (Nat.le_of_ble_eq_true rfl) ?_)
  unfold Tryd.f79
  by_cases h : a ≥ b
  · simp only [go_sem, Nat.reduceLT, Nat.reduceAdd, Nat.reduceSub, Nat.reduceEqDiff, Nat.reduceLeDiff, Int.reduceEq, h]
  · simp only [go_sem, Nat.reduceLT, Nat.reduceAdd, Nat.reduceSub, Nat.reduceEqDiff, Nat.reduceLeDiff, Int.reduceEq, h]

theorem l1In_ok (n : Nat) (hn : Big + 1 ≤ n) (a b c : Int) : pcall env n 75 [pvSV (.i .i64 a), pvSV (.i .i64 b), pvSV (.i .i64 c)] [] = some ⟨pvSV (.b (decide (a ≥ b) && decide (a ≤ c))), []⟩ := by
  obtain ⟨m, rfl⟩ := ex_pred hn
  refine wq_eq (wq_pcall (fn := Tryd.f75) rfl rfl rfl (Nat.le_of_ble_eq_true rfl) ?_)
  unfold Tryd.f75
  by_cases h : a ≥ b
  · simp only [go_sem, Nat.reduceLT, Nat.reduceAdd, Nat.reduceSub, Nat.reduceEqDiff, Nat.reduceLeDiff, Int.reduceEq, h]
  · simp only [go_sem, Nat.reduceLT, Nat.reduceAdd, Nat.reduceSub, Nat.reduceEqDiff, Nat.reduceLeDiff, Int.reduceEq, h]
end Go.Proofs.YtblelojdboefjaaDoor.R
