/- Which numbers are below nothing: the closure, slices.IndexFunc. -/
import Derived.Test.YtblelojdboefjaaGreatF
import Derived.Test.YtblelojdboefjaaGreatM6
set_option maxRecDepth 100000
set_option linter.unusedVariables false
set_option linter.unusedSimpArgs false
namespace Go.Proofs.YtblelojdboefjaaGreat.R
open Go

theorem isNeg_ok (n : Nat) (hn : Big + 1 ≤ n) (x : Int) : pcall env n 40 [.c .one [.sh false (.i .i64 x)]] [] = some ⟨pvSV (.b (decide (x < 0))), []⟩ := by
  obtain ⟨m, rfl⟩ := ex_pred hn
  refine wq_eq (wq_pcall (fn := Tryz.f40) rfl rfl rfl (Nat.le_of_ble_eq_true rfl) ?_)
  unfold Tryz.f40
  simp only [go_sem, Nat.reduceLT, Nat.reduceAdd, Nat.reduceSub, Nat.reduceEqDiff, Nat.reduceLeDiff, Int.reduceEq, Int.reduceBEq, Int.reduceBNe, Int.reduceNeg, UInt8.reduceToNat, Nat.reduceBEq]

/-- Where the first number below nothing is; -1 if there is none. -/
def negAt (l : List Int) : Int := if l.findIdx (fun x => decide (x < 0)) < l.length then (l.findIdx (fun x => decide (x < 0)) : Nat) else -1
theorem negAt_pos {l : List Int} {j : Nat} (h : ∀ i, i < j → ∀ x, l[i]? = some x → ¬ x < 0) {x : Int} (hj : l[j]? = some x) (hx : x < 0) : negAt l = (j : Nat) := by
  have hlt := (List.getElem?_eq_some_iff.1 hj).1
  have e : l.findIdx (fun x => decide (x < 0)) = j := by
    rw [List.findIdx_eq hlt]
    refine ⟨by rw [(List.getElem?_eq_some_iff.1 hj).2]; simpa using hx, fun i hi => ?_⟩
    have := h i hi _ (List.getElem?_eq_getElem (by omega))
    simpa using this
  unfold negAt
  rw [e, if_pos hlt]
theorem negAt_none {l : List Int} (h : ∀ i, i < l.length → ∀ x, l[i]? = some x → ¬ x < 0) : negAt l = -1 := by
  unfold negAt
  rw [if_neg]
  intro hlt
  have h1 := List.findIdx_getElem (w := hlt)
  exact h _ hlt _ (List.getElem?_eq_getElem hlt) (by simpa using h1)

theorem indexNeg_ok (n : Nat) (hn : Big + 2 ≤ n) (l : List Int) (hl : l.length ≤ 4398046511104) (f : Bool) : pcall env n 65 [.c .one [.sh f (.s 1 (l.map ipv))], .fn 40 []] [] = some ⟨pvSV (.i .i64 (negAt l)), []⟩ := by
  obtain ⟨m, rfl⟩ := ex_pred hn
  have hB : 4398046511104 < Big := by decide
  have hb : Bd = 1048576 := rfl
  refine wq_eq (wq_pcall (fn := Tryz.f65) rfl rfl rfl (Nat.le_of_ble_eq_true rfl) ?_)
  unfold Tryz.f65
  have hc := fun x => isNeg_ok m (deep hn (by decide)) x
  simp only [go_sem] at hc
  simp only [go_sem, Nat.reduceLT, Nat.reduceAdd, Nat.reduceSub, Nat.reduceEqDiff, Nat.reduceLeDiff, Int.reduceEq, Int.reduceBEq, Int.reduceBNe, Int.reduceNeg, UInt8.reduceToNat, Nat.reduceBEq]
  refine wq_loop_at (fun k σ => ∃ j : Nat, j ≤ l.length ∧ k = l.length - j ∧ (∀ i, i < j → ∀ x, l[i]? = some x → ¬ x < 0) ∧ σ = slots 19 [(0, .c .one [.sh f (.s 1 (l.map ipv))]), (1, .fn 40 []), (7, .c .one [.sh false (.i .i64 l.length)]), (8, .c .one [.sh false (.i .i64 (j : Nat))])]) l.length (by omega) ?_ ?_
  · simp only [go_sem, Nat.reduceLT, Nat.reduceAdd, Nat.reduceSub, Nat.reduceEqDiff, Nat.reduceLeDiff, Int.reduceEq, Int.reduceBEq, Int.reduceBNe, Int.reduceNeg, UInt8.reduceToNat, Nat.reduceBEq]
    exact ⟨0, Nat.zero_le _, rfl, fun i hi => absurd hi (Nat.not_lt_zero _), rfl⟩
  · rintro k σ ⟨j, hj, rfl, hall, rfl⟩
    by_cases hlt : j < l.length
    · have h1 : ((j : Int) < (l.length : Int)) := by omega
      have hx : l[j]? = some l[j] := List.getElem?_eq_getElem hlt
      generalize l[j] = x at hx
      simp only [go_sem, Nat.reduceLT, Nat.reduceAdd, Nat.reduceSub, Nat.reduceEqDiff, Nat.reduceLeDiff, Int.reduceEq, Int.reduceBEq, Int.reduceBNe, Int.reduceNeg, UInt8.reduceToNat, Nat.reduceBEq, h1, hx, hc, wrap_succ hlt (by omega)]
      refine bq_mk (fun h => ?_) (fun h => ?_)
      · simp only [go_sem, Nat.reduceLT, Nat.reduceAdd, Nat.reduceSub, Nat.reduceEqDiff, Nat.reduceLeDiff, Int.reduceEq, Int.reduceBEq, Int.reduceBNe, Int.reduceNeg, UInt8.reduceToNat, Nat.reduceBEq, negAt_pos hall hx h]
      · simp only [go_sem, Nat.reduceLT, Nat.reduceAdd, Nat.reduceSub, Nat.reduceEqDiff, Nat.reduceLeDiff, Int.reduceEq, Int.reduceBEq, Int.reduceBNe, Int.reduceNeg, UInt8.reduceToNat, Nat.reduceBEq, wrap_succ hlt (by omega)]
        refine ⟨_, by omega, j + 1, hlt, rfl, fun i hi y hy => ?_, rfl⟩
        by_cases e : i = j
        · subst e
          rw [hx] at hy; injection hy with hy; subst hy; exact h
        · exact hall i (by omega) y hy
    · have h1 : ¬ ((j : Int) < (l.length : Int)) := by omega
      simp only [go_sem, Nat.reduceLT, Nat.reduceAdd, Nat.reduceSub, Nat.reduceEqDiff, Nat.reduceLeDiff, Int.reduceEq, Int.reduceBEq, Int.reduceBNe, Int.reduceNeg, UInt8.reduceToNat, Nat.reduceBEq, h1, negAt_none fun i hi => hall i (by omega)]
end Go.Proofs.YtblelojdboefjaaGreat.R
