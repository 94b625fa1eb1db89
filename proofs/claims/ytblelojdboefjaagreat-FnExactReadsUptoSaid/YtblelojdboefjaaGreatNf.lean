/- slices.Concat of whole numbers. -/
import Derived.Test.YtblelojdboefjaaGreatNe
set_option maxRecDepth 100000
set_option linter.unusedVariables false
set_option linter.unusedSimpArgs false
namespace Go.Proofs.YtblelojdboefjaaGreat.R
open Go

theorem flat_take {ls : List (List Int)} {j : Nat} {l : List Int} (h : ls[j]? = some l) : (ls.take (j + 1)).flatten = (ls.take j).flatten ++ l := by
  obtain ⟨hj, e⟩ := List.getElem?_eq_some_iff.1 h
  rw [List.take_succ_eq_append_getElem hj, e]
  simp
theorem flat_le (ls : List (List Int)) (j : Nat) : (ls.take j).flatten.length ≤ ls.flatten.length := by
  have := List.take_append_drop j ls
  calc (ls.take j).flatten.length ≤ (ls.take j).flatten.length + (ls.drop j).flatten.length := Nat.le_add_right _ _
    _ = ls.flatten.length := by rw [← List.length_append, ← List.flatten_append, this]

set_option maxHeartbeats 4000000 in
theorem concat_ok (n : Nat) (hn : Big + 3 ≤ n) (ls : List (List Int)) (hl : ls.length ≤ 4398046511104) (ht : ls.flatten.length ≤ 4398046511104) : ∃ fl, pcall env n 35 [.c .one [.sh true (.s 1 (ls.map lpv))]] [] = some ⟨.c .one [.ow fl 1 (ls.flatten.map ipv)], []⟩ := by
  obtain ⟨m, rfl⟩ := ex_pred hn
  have hB : 4398046511104 < Big := by decide
  have hlim : LIM = 70368744177664 := rfl
  suffices H : @Wq _ (pcall env (m + 1) 35 [.c .one [.sh true (.s 1 (ls.map lpv))]] []) ⟨fun r => ∃ fl, r = ⟨.c .one [.ow fl 1 (ls.flatten.map ipv)], []⟩⟩ by
    obtain ⟨r, h1, fl, h2⟩ := H
    exact ⟨fl, by rw [h1, h2]⟩
  refine wq_pcall (fn := Tryz.f35) rfl rfl rfl (Nat.le_of_ble_eq_true rfl) ?_
  unfold Tryz.f35
  simp only [go_sem, Nat.reduceLT, Nat.reduceAdd, Nat.reduceSub, Nat.reduceEqDiff, Nat.reduceLeDiff, Int.reduceEq, Int.reduceBEq, Int.reduceBNe, Int.reduceNeg, UInt8.reduceToNat, Nat.reduceBEq]
  refine wq_loop_at (fun k τ => ∃ j : Nat, j ≤ ls.length ∧ k = ls.length - j ∧ τ = slots 36 [(0, .c .one [.sh true (.s 1 (ls.map lpv))]), (3, .c .one [.sh false (.i .i64 ((ls.take j).flatten.length : Nat))]), (9, .c .one [.sh true (.s 1 (ls.map lpv))]), (10, .c .one [.sh false (.i .i64 ls.length)]), (11, .c .one [.sh false (.i .i64 (j : Nat))])]) ls.length (by omega) ?_ ?_
  · simp only [go_sem, Nat.reduceLT, Nat.reduceAdd, Nat.reduceSub, Nat.reduceEqDiff, Nat.reduceLeDiff, Int.reduceEq, Int.reduceBEq, Int.reduceBNe, Int.reduceNeg, UInt8.reduceToNat, Nat.reduceBEq]
    exact ⟨0, Nat.zero_le _, rfl, rfl⟩
  · rintro k τ ⟨j, hj, rfl, rfl⟩
    by_cases hlt : j < ls.length
    · have h1 : ((j : Int) < (ls.length : Int)) := by omega
      have hx : ls[j]? = some ls[j] := List.getElem?_eq_getElem hlt
      generalize ls[j] = l at hx
      have e1 := congrArg List.length (flat_take hx)
      rw [List.length_append] at e1
      have e2 := flat_le ls (j + 1)
      have w1 : IntKind.i64.wrap (((ls.take j).flatten.length : Int) + (l.length : Int)) = (((ls.take (j + 1)).flatten.length : Nat) : Int) := by rw [wrap_in (by omega) (by omega)]; omega
      have h2 : ¬ ((((ls.take (j + 1)).flatten.length : Nat) : Int) < 0) := by omega
      simp only [go_sem, Nat.reduceLT, Nat.reduceAdd, Nat.reduceSub, Nat.reduceEqDiff, Nat.reduceLeDiff, Int.reduceEq, Int.reduceBEq, Int.reduceBNe, Int.reduceNeg, UInt8.reduceToNat, Nat.reduceBEq, h1, hx, lpv, w1, h2, wrap_succ hlt (by omega)]
      exact ⟨_, by omega, j + 1, hlt, rfl, rfl⟩
    · have h1 : ¬ ((j : Int) < (ls.length : Int)) := by omega
      obtain rfl : j = ls.length := by omega
      rw [List.take_length]
      have g1 : (0 : Int) ≤ (ls.flatten.length : Int) := by omega
      have g2 : (ls.flatten.length : Int) ≤ (LIM : Int) := by omega
      have g3 : (ls.flatten.length : Int) * 8 ≤ (LIM : Int) := by omega
      simp only [go_sem, Nat.reduceLT, Nat.reduceAdd, Nat.reduceSub, Nat.reduceEqDiff, Nat.reduceLeDiff, Int.reduceEq, Int.reduceBEq, Int.reduceBNe, Int.reduceNeg, UInt8.reduceToNat, Nat.reduceBEq, h1, g1, g2, g3, growOrc]
      refine wq_loop_at (fun k τ => ∃ (j : Nat) (fl : Bool), j ≤ ls.length ∧ k = ls.length - j ∧ τ = slots 36 [(6, .c .one [.ow fl 1 ((ls.take j).flatten.map ipv)]), (25, .c .one [.sh true (.s 1 (ls.map lpv))]), (26, .c .one [.sh false (.i .i64 ls.length)]), (27, .c .one [.sh false (.i .i64 (j : Nat))])]) ls.length (by omega) ?_ ?_
      · simp only [go_sem, Nat.reduceLT, Nat.reduceAdd, Nat.reduceSub, Nat.reduceEqDiff, Nat.reduceLeDiff, Int.reduceEq, Int.reduceBEq, Int.reduceBNe, Int.reduceNeg, UInt8.reduceToNat, Nat.reduceBEq]
        exact ⟨0, false, Nat.zero_le _, rfl, rfl⟩
      · rintro k τ ⟨j, fl, hj, rfl, rfl⟩
        by_cases hlt : j < ls.length
        · have h1 : ((j : Int) < (ls.length : Int)) := by omega
          have hx : ls[j]? = some ls[j] := List.getElem?_eq_getElem hlt
          generalize ls[j] = l at hx
          have e1 := flat_take hx
          have e3 := congrArg List.length e1
          rw [List.length_append] at e3
          have e2 := flat_le ls (j + 1)
          have h8 : ((ls.take j).flatten.length + l.length) * 8 ≤ LIM := by omega
          have e4 : (ls.take j).flatten.map ipv ++ l.map ipv = (ls.take (j + 1)).flatten.map ipv := by rw [e1, List.map_append]
          simp only [go_sem, Nat.reduceLT, Nat.reduceAdd, Nat.reduceSub, Nat.reduceEqDiff, Nat.reduceLeDiff, Int.reduceEq, Int.reduceBEq, Int.reduceBNe, Int.reduceNeg, UInt8.reduceToNat, Nat.reduceBEq, h1, hx, lpv, h8, e4, wrap_succ hlt (by omega)]
          exact ⟨_, by omega, j + 1, _, hlt, rfl, rfl⟩
        · have h1 : ¬ ((j : Int) < (ls.length : Int)) := by omega
          obtain rfl : j = ls.length := by omega
          rw [List.take_length]
          simp only [go_sem, Nat.reduceLT, Nat.reduceAdd, Nat.reduceSub, Nat.reduceEqDiff, Nat.reduceLeDiff, Int.reduceEq, Int.reduceBEq, Int.reduceBNe, Int.reduceNeg, UInt8.reduceToNat, Nat.reduceBEq, h1]
          exact ⟨_, rfl⟩
end Go.Proofs.YtblelojdboefjaaGreat.R
