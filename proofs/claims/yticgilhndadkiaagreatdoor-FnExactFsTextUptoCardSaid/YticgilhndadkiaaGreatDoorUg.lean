/- Is a number among others? -/
import Derived.Test.YticgilhndadkiaaGreatDoorUf
set_option maxRecDepth 100000
set_option linter.unusedVariables false
set_option linter.unusedSimpArgs false
namespace Go.Proofs.YticgilhndadkiaaGreatDoor.R
open Go

def hasB (l : List Int) (k : Int) : Bool := l.any fun x => x == k
theorem has_true {l : List Int} {k a : Int} {j : Nat} (hx : l[j]? = some a) (h : (a == k) = true) : hasB l k = true := List.any_eq_true.2 ⟨a, List.mem_of_getElem? hx, h⟩
theorem has_false {l : List Int} {k : Int} (h : ∀ (i : Nat) (y : Int), i < l.length → l[i]? = some y → (y == k) = false) : hasB l k = false := by
  unfold hasB
  rw [List.any_eq_false]
  intro y hy
  obtain ⟨i, hi⟩ := List.getElem?_of_mem hy
  rw [h i y (List.getElem?_eq_some_iff.1 hi).1 hi]
  decide

set_option maxHeartbeats 1000000 in
theorem l7Has_ok (n : Nat) (hn : Big + 2 ≤ n) (l : List Int) (hl : l.length ≤ 4398046511104) (k : Int) : pcall env n 129 [.c .one [.sh true (.s 1 (l.map ipv))], pvSV (.i .i64 k)] [] = some ⟨pvSV (.b (hasB l k)), []⟩ := by
  obtain ⟨m, rfl⟩ := ex_pred hn
  have hB := big_bd
  have hB2 : 4398046511104 < Big := by decide
  have hbd : Bd = 1048576 := rfl
  refine wq_eq (wq_pcall (fn := Tryz.f129) rfl rfl rfl (Nat.le_of_ble_eq_true rfl) ?_)
  unfold Tryz.f129
  simp only [go_sem, Nat.reduceLT, Nat.reduceAdd, Nat.reduceSub, Nat.reduceEqDiff, Nat.reduceLeDiff, Int.reduceEq, Int.reduceBEq, Int.reduceBNe, Int.reduceNeg, UInt8.reduceToNat]
  refine wq_loop_at (fun r σ => ∃ j : Nat, j ≤ l.length ∧ r = l.length - j ∧ (∀ (i : Nat) (y : Int), i < j → l[i]? = some y → (y == k) = false) ∧ σ = slots 18 [(0, .c .one [.sh true (.s 1 (l.map ipv))]), (1, .c .one [.sh false (.i .i64 k)]), (5, .c .one [.sh false (.i .i64 (j : Nat))])]) l.length (by omega) ?_ ?_
  · simp only [go_sem, Nat.reduceLT, Nat.reduceAdd, Nat.reduceSub, Nat.reduceEqDiff, Nat.reduceLeDiff, Int.reduceEq, Int.reduceBEq, Int.reduceBNe, Int.reduceNeg, UInt8.reduceToNat]
    exact ⟨0, Nat.zero_le _, rfl, fun i y hi => absurd hi (Nat.not_lt_zero _), rfl⟩
  · rintro r σ ⟨j, hj, rfl, hp, rfl⟩
    by_cases hlt : j < l.length
    · have h1 : ((j : Int) < (l.length : Int)) := by omega
      have hx : l[j]? = some l[j] := List.getElem?_eq_getElem hlt
      generalize l[j] = a at hx
      cases ha : (a == k) with
      | true =>
        rw [has_true hx ha]
        simp only [go_sem, Nat.reduceLT, Nat.reduceAdd, Nat.reduceSub, Nat.reduceEqDiff, Nat.reduceLeDiff, Int.reduceEq, Int.reduceBEq, Int.reduceBNe, Int.reduceNeg, UInt8.reduceToNat, h1, hx, ha, ipv]
      | false =>
        simp only [go_sem, Nat.reduceLT, Nat.reduceAdd, Nat.reduceSub, Nat.reduceEqDiff, Nat.reduceLeDiff, Int.reduceEq, Int.reduceBEq, Int.reduceBNe, Int.reduceNeg, UInt8.reduceToNat, h1, hx, ha, ipv, wrap_succ hlt (by omega)]
        refine ⟨_, by omega, j + 1, hlt, rfl, fun i y hi hy => ?_, rfl⟩
        rcases Nat.lt_succ_iff_lt_or_eq.1 hi with h | h
        · exact hp i y h hy
        · subst h; rw [hx] at hy; injection hy with hy; subst hy; exact ha
    · have h1 : ¬ ((j : Int) < (l.length : Int)) := by omega
      obtain rfl : j = l.length := by omega
      rw [has_false hp]
      simp only [go_sem, Nat.reduceLT, Nat.reduceAdd, Nat.reduceSub, Nat.reduceEqDiff, Nat.reduceLeDiff, Int.reduceEq, Int.reduceBEq, Int.reduceBNe, Int.reduceNeg, UInt8.reduceToNat, h1]

set_option maxHeartbeats 1000000 in
theorem indexInt_ok (n : Nat) (hn : Big + 2 ≤ n) (l : List Int) (hl : l.length ≤ 4398046511104) (k : Int) : ∃ v : Int, decide (v ≥ 0) = hasB l k ∧ pcall env n 117 [.c .one [.sh true (.s 1 (l.map ipv))], pvSV (.i .i64 k)] [] = some ⟨pvSV (.i .i64 v), []⟩ := by
  obtain ⟨m, rfl⟩ := ex_pred hn
  have hB := big_bd
  have hB2 : 4398046511104 < Big := by decide
  have hbd : Bd = 1048576 := rfl
  suffices h : @Wq _ (pcall env (m + 1) 117 [.c .one [.sh true (.s 1 (l.map ipv))], pvSV (.i .i64 k)] []) ⟨fun r => ∃ v : Int, decide (v ≥ 0) = hasB l k ∧ r = ⟨pvSV (.i .i64 v), []⟩⟩ by
    obtain ⟨r, h1, v, h2, h3⟩ := h; exact ⟨v, h2, by rw [h1, h3]⟩
  refine wq_pcall (fn := Tryz.f117) rfl rfl rfl (Nat.le_of_ble_eq_true rfl) ?_
  unfold Tryz.f117
  simp only [go_sem, Nat.reduceLT, Nat.reduceAdd, Nat.reduceSub, Nat.reduceEqDiff, Nat.reduceLeDiff, Int.reduceEq, Int.reduceBEq, Int.reduceBNe, Int.reduceNeg, UInt8.reduceToNat]
  refine wq_loop_at (fun r σ => ∃ j : Nat, j ≤ l.length ∧ r = l.length - j ∧ (∀ (i : Nat) (y : Int), i < j → l[i]? = some y → (y == k) = false) ∧ σ = slots 19 [(0, .c .one [.sh true (.s 1 (l.map ipv))]), (1, .c .one [.sh false (.i .i64 k)]), (7, .c .one [.sh false (.i .i64 (l.length : Nat))]), (8, .c .one [.sh false (.i .i64 (j : Nat))])]) l.length (by omega) ?_ ?_
  · simp only [go_sem, Nat.reduceLT, Nat.reduceAdd, Nat.reduceSub, Nat.reduceEqDiff, Nat.reduceLeDiff, Int.reduceEq, Int.reduceBEq, Int.reduceBNe, Int.reduceNeg, UInt8.reduceToNat]
    exact ⟨0, Nat.zero_le _, rfl, fun i y hi => absurd hi (Nat.not_lt_zero _), rfl⟩
  · rintro r σ ⟨j, hj, rfl, hp, rfl⟩
    by_cases hlt : j < l.length
    · have h1 : ((j : Int) < (l.length : Int)) := by omega
      have hx : l[j]? = some l[j] := List.getElem?_eq_getElem hlt
      generalize l[j] = a at hx
      cases ha : (a == k) with
      | true =>
        have ha' : (k == a) = true := by rw [BEq.comm]; exact ha
        rw [has_true hx ha]
        simp only [go_sem, Nat.reduceLT, Nat.reduceAdd, Nat.reduceSub, Nat.reduceEqDiff, Nat.reduceLeDiff, Int.reduceEq, Int.reduceBEq, Int.reduceBNe, Int.reduceNeg, UInt8.reduceToNat, h1, hx, ha', ipv]
        exact ⟨_, by simp, rfl⟩
      | false =>
        have ha' : (k == a) = false := by rw [BEq.comm]; exact ha
        simp only [go_sem, Nat.reduceLT, Nat.reduceAdd, Nat.reduceSub, Nat.reduceEqDiff, Nat.reduceLeDiff, Int.reduceEq, Int.reduceBEq, Int.reduceBNe, Int.reduceNeg, UInt8.reduceToNat, h1, hx, ha', ipv, wrap_succ hlt (by omega)]
        refine ⟨_, by omega, j + 1, hlt, rfl, fun i y hi hy => ?_, rfl⟩
        rcases Nat.lt_succ_iff_lt_or_eq.1 hi with h | h
        · exact hp i y h hy
        · subst h; rw [hx] at hy; injection hy with hy; subst hy; exact ha
    · have h1 : ¬ ((j : Int) < (l.length : Int)) := by omega
      obtain rfl : j = l.length := by omega
      rw [has_false hp]
      simp only [go_sem, Nat.reduceLT, Nat.reduceAdd, Nat.reduceSub, Nat.reduceEqDiff, Nat.reduceLeDiff, Int.reduceEq, Int.reduceBEq, Int.reduceBNe, Int.reduceNeg, UInt8.reduceToNat, h1]
      exact ⟨_, by simp, rfl⟩
theorem containsInt_ok (n : Nat) (hn : Big + 3 ≤ n) (l : List Int) (hl : l.length ≤ 4398046511104) (k : Int) : pcall env n 91 [.c .one [.sh true (.s 1 (l.map ipv))], pvSV (.i .i64 k)] [] = some ⟨pvSV (.b (hasB l k)), []⟩ := by
  obtain ⟨m, rfl⟩ := ex_pred hn
  obtain ⟨v, hv, hc⟩ := indexInt_ok m (deep hn (by decide)) l hl k
  simp only [go_sem] at hc
  rw [← hv]
  refine wq_eq (wq_pcall (fn := Tryz.f91) rfl rfl rfl (Nat.le_of_ble_eq_true rfl) ?_)
  unfold Tryz.f91
  simp only [go_sem, Nat.reduceLT, Nat.reduceAdd, Nat.reduceSub, Nat.reduceEqDiff, Nat.reduceLeDiff, Int.reduceEq, Int.reduceBEq, Int.reduceBNe, Int.reduceNeg, UInt8.reduceToNat, hc]

end Go.Proofs.YticgilhndadkiaaGreatDoor.R
