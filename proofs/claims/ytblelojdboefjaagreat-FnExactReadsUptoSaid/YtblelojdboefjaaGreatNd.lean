/- Is a number among others? And put among them. -/
import Derived.Test.YtblelojdboefjaaGreatF
import Derived.Test.YtblelojdboefjaaGreatM6
set_option maxRecDepth 100000
set_option linter.unusedVariables false
set_option linter.unusedSimpArgs false
namespace Go.Proofs.YtblelojdboefjaaGreat.R
open Go

def hasB (l : List Int) (k : Int) : Bool := l.any fun x => x == k
theorem has_true {l : List Int} {k a : Int} {j : Nat} (hx : l[j]? = some a) (h : (a == k) = true) : hasB l k = true := List.any_eq_true.2 ⟨a, List.mem_of_getElem? hx, h⟩
theorem has_false {l : List Int} {k : Int} (h : ∀ (i : Nat) (y : Int), i < l.length → l[i]? = some y → (y == k) = false) : hasB l k = false := by
  unfold hasB
  rw [List.any_eq_false]
  intro y hy
  obtain ⟨i, hi⟩ := List.getElem?_of_mem hy
  rw [h i y (List.getElem?_eq_some_iff.1 hi).1 hi]
  decide

set_option maxHeartbeats 1000000 in
theorem l7Has_ok (n : Nat) (hn : Big + 2 ≤ n) (l : List Int) (hl : l.length ≤ 4398046511104) (k : Int) : pcall env n 86 [.c .one [.sh true (.s 1 (l.map ipv))], pvSV (.i .i64 k)] [] = some ⟨pvSV (.b (hasB l k)), []⟩ := by
  obtain ⟨m, rfl⟩ := ex_pred hn
  have hB := big_bd
  have hB2 : 4398046511104 < Big := by decide
  have hbd : Bd = 1048576 := rfl
  refine wq_eq (wq_pcall (fn := Tryz.f86) rfl rfl rfl (Nat.le_of_ble_eq_true rfl) ?_)
  unfold Tryz.f86
  simp only [go_sem, Nat.reduceLT, Nat.reduceAdd, Nat.reduceSub, Nat.reduceEqDiff, Nat.reduceLeDiff, Int.reduceEq, Int.reduceBEq, Int.reduceBNe, Int.reduceNeg, UInt8.reduceToNat]
  refine wq_loop_at (fun r σ => ∃ j : Nat, j ≤ l.length ∧ r = l.length - j ∧ (∀ (i : Nat) (y : Int), i < j → l[i]? = some y → (y == k) = false) ∧ σ = slots 18 [(0, .c .one [.sh true (.s 1 (l.map ipv))]), (1, .c .one [.sh false (.i .i64 k)]), (5, .c .one [.sh false (.i .i64 (j : Nat))])]) l.length (by omega) ?_ ?_
  · simp only [go_sem, Nat.reduceLT, Nat.reduceAdd, Nat.reduceSub, Nat.reduceEqDiff, Nat.reduceLeDiff, Int.reduceEq, Int.reduceBEq, Int.reduceBNe, Int.reduceNeg, UInt8.reduceToNat]
    exact ⟨0, Nat.zero_le _, rfl, fun i y hi => absurd hi (Nat.not_lt_zero _), rfl⟩
  · rintro r σ ⟨j, hj, rfl, hp, rfl⟩
    by_cases hlt : j < l.length
    · have h1 : ((j : Int) < (l.length : Int)) := by omega
      have hx : l[j]? = some l[j] := List.getElem?_eq_getElem hlt
      generalize l[j] = a at hx
      cases ha : (a == k) with
      | true =>
        rw [has_true hx ha]
        simp only [go_sem, Nat.reduceLT, Nat.reduceAdd, Nat.reduceSub, Nat.reduceEqDiff, Nat.reduceLeDiff, Int.reduceEq, Int.reduceBEq, Int.reduceBNe, Int.reduceNeg, UInt8.reduceToNat, h1, hx, ha, ipv]
      | false =>
        simp only [go_sem, Nat.reduceLT, Nat.reduceAdd, Nat.reduceSub, Nat.reduceEqDiff, Nat.reduceLeDiff, Int.reduceEq, Int.reduceBEq, Int.reduceBNe, Int.reduceNeg, UInt8.reduceToNat, h1, hx, ha, ipv, wrap_succ hlt (by omega)]
        refine ⟨_, by omega, j + 1, hlt, rfl, fun i y hi hy => ?_, rfl⟩
        rcases Nat.lt_succ_iff_lt_or_eq.1 hi with h | h
        · exact hp i y h hy
        · subst h; rw [hx] at hy; injection hy with hy; subst hy; exact ha
    · have h1 : ¬ ((j : Int) < (l.length : Int)) := by omega
      obtain rfl : j = l.length := by omega
      rw [has_false hp]
      simp only [go_sem, Nat.reduceLT, Nat.reduceAdd, Nat.reduceSub, Nat.reduceEqDiff, Nat.reduceLeDiff, Int.reduceEq, Int.reduceBEq, Int.reduceBNe, Int.reduceNeg, UInt8.reduceToNat, h1]

/-- A list with z put in ahead of place j. -/
def holeL {α : Type} (l : List α) (j : Nat) (z : α) : List α := l.take j ++ z :: l.drop j
theorem hole_len {α : Type} {l : List α} {j : Nat} {z : α} (h : j ≤ l.length) : (holeL l j z).length = l.length + 1 := by
  unfold holeL; simp; omega
theorem hole_end {α : Type} (l : List α) (z : α) : holeL l l.length z = l ++ [z] := by
  unfold holeL; simp
theorem hole_get {α : Type} {l : List α} {j : Nat} {z : α} (h : j < l.length) : (holeL l (j + 1) z)[j]? = l[j]? := by
  unfold holeL
  rw [List.getElem?_append_left (by rw [List.length_take]; omega), List.getElem?_take_of_lt (Nat.lt_succ_self j)]
theorem hole_at {α : Type} {l : List α} {j : Nat} {z : α} (h : j ≤ l.length) : (holeL l j z)[j]? = some z := by
  unfold holeL
  rw [List.getElem?_append_right (by rw [List.length_take]; omega), List.length_take, Nat.min_eq_left h, Nat.sub_self]
  rfl
theorem hole_set {α : Type} {l : List α} {j : Nat} {z y : α} (h : j ≤ l.length) : (holeL l j z).set j y = holeL l j y := by
  unfold holeL
  rw [List.set_append_right _ _ (by rw [List.length_take]; omega), List.length_take, Nat.min_eq_left h, Nat.sub_self]
  rfl
theorem hole_down {α : Type} {l : List α} {j : Nat} {a : α} (h : l[j]? = some a) : holeL l (j + 1) a = holeL l j a := by
  obtain ⟨hj, ha⟩ := List.getElem?_eq_some_iff.1 h
  unfold holeL
  rw [List.take_add_one, h]
  have : l.drop j = a :: l.drop (j + 1) := by rw [List.drop_eq_getElem_cons hj, ha]
  rw [this]
  simp
theorem hole_perm {α : Type} (l : List α) (j : Nat) (z : α) : (holeL l j z).Perm (l ++ [z]) := by
  unfold holeL
  have h1 : (l.take j ++ z :: l.drop j).Perm (z :: (l.take j ++ l.drop j)) := List.perm_middle
  rw [List.take_append_drop] at h1
  exact h1.trans (List.perm_append_singleton z l).symm
theorem set_ipv {l : List Int} {j : Nat} {a : Int} : (l.map ipv).set j [.i .i64 a] = (l.set j a).map ipv := by
  rw [List.map_set]; rfl

set_option maxHeartbeats 4000000 in
theorem l7Put_ok (n : Nat) (hn : Big + 3 ≤ n) (l : List Int) (hl : l.length ≤ 4398046511104) (k : Int) : ∃ c : CV, (c = .sh true (.s 1 (l.map ipv)) ∧ hasB l k = true ∨ hasB l k = false ∧ ∃ p, c = .ow true 1 ((holeL l p k).map ipv) ∧ p ≤ l.length) ∧ pcall env n 56 [.c .one [.sh true (.s 1 (l.map ipv))], pvSV (.i .i64 k)] [] = some ⟨.c .one [c], []⟩ := by
  obtain ⟨m, rfl⟩ := ex_pred hn
  have hB := big_bd
  have hB2 : 4398046511104 < Big := by decide
  have hlim : LIM = 70368744177664 := rfl
  have hh := l7Has_ok m (deep hn (by decide)) l hl k
  simp only [go_sem] at hh
  suffices h : @Wq _ (pcall env (m + 1) 56 [.c .one [.sh true (.s 1 (l.map ipv))], pvSV (.i .i64 k)] []) ⟨fun r => ∃ c : CV, (c = .sh true (.s 1 (l.map ipv)) ∧ hasB l k = true ∨ hasB l k = false ∧ ∃ p, c = .ow true 1 ((holeL l p k).map ipv) ∧ p ≤ l.length) ∧ r = ⟨.c .one [c], []⟩⟩ by
    obtain ⟨r, h1, c, h2, h3⟩ := h; exact ⟨c, h2, by rw [h1, h3]⟩
  refine wq_pcall (fn := Tryz.f56) rfl rfl rfl (Nat.le_of_ble_eq_true rfl) ?_
  unfold Tryz.f56
  cases hb : hasB l k with
  | true =>
    simp only [go_sem, Nat.reduceLT, Nat.reduceAdd, Nat.reduceSub, Nat.reduceEqDiff, Nat.reduceLeDiff, Int.reduceEq, Int.reduceBEq, Int.reduceBNe, Int.reduceNeg, UInt8.reduceToNat, Nat.reduceBEq, hh, hb]
    exact ⟨_, rfl, rfl⟩
  | false =>
    have hlm : l.length * 8 ≤ LIM := by omega
    have hlm2 : (l.length + 1) * 8 ≤ LIM := by omega
    have w1 : IntKind.i64.wrap (((l.length + 1 : Nat) : Int) - 1) = (l.length : Nat) := by rw [wrap_in (by omega) (by omega)]; omega
    simp only [go_sem, Nat.reduceLT, Nat.reduceAdd, Nat.reduceSub, Nat.reduceEqDiff, Nat.reduceLeDiff, Int.reduceEq, Int.reduceBEq, Int.reduceBNe, Int.reduceNeg, UInt8.reduceToNat, Nat.reduceBEq, hh, hb, hlm, hlm2, w1]
    refine wq_loop_at (fun r σ => ∃ (j : Nat) (z : Int), j ≤ l.length ∧ r = j + 1 ∧ σ = slots 46 [(1, .c .one [.sh false (.i .i64 k)]), (5, .c .one [.ow true 1 ((holeL l j z).map ipv)]), (6, .c .one [.sh false (.i .i64 (j : Nat))])]) (l.length + 1) (by omega) ?_ ?_
    · simp only [go_sem, Nat.reduceLT, Nat.reduceAdd, Nat.reduceSub, Nat.reduceEqDiff, Nat.reduceLeDiff, Int.reduceEq, Int.reduceBEq, Int.reduceBNe, Int.reduceNeg, UInt8.reduceToNat, Nat.reduceBEq]
      refine ⟨l.length, k, Nat.le_refl _, rfl, ?_⟩
      rw [hole_end, List.map_append]
      rfl
    · rintro r σ ⟨j, z, hj, rfl, rfl⟩
      have hat : (holeL l j z)[j]? = some z := hole_at hj
      have hst : ((holeL l j z).map ipv).set j [.i .i64 k] = (holeL l j k).map ipv := by rw [set_ipv, hole_set hj]
      cases j with
      | zero =>
        simp only [go_sem, Nat.reduceLT, Nat.reduceAdd, Nat.reduceSub, Nat.reduceEqDiff, Nat.reduceLeDiff, Int.reduceEq, Int.reduceBEq, Int.reduceBNe, Int.reduceNeg, UInt8.reduceToNat, Nat.reduceBEq, hat, hst]
        exact ⟨_, ⟨0, rfl, Nat.zero_le _⟩, rfl⟩
      | succ j =>
        have hx : l[j]? = some l[j] := List.getElem?_eq_getElem (by omega)
        generalize l[j] = a at hx
        have h1 : ((j + 1 : Nat) : Int) > 0 := by omega
        have w2 : IntKind.i64.wrap (((j + 1 : Nat) : Int) - 1) = (j : Nat) := by rw [wrap_in (by omega) (by omega)]; omega
        have hg : (holeL l (j + 1) z)[j]? = some a := by rw [hole_get (by omega), hx]
        have hst2 : ((holeL l (j + 1) z).map ipv).set (j + 1) [.i .i64 a] = (holeL l j a).map ipv := by rw [set_ipv, hole_set hj, hole_down hx]
        by_cases hgt : a > k
        · simp only [go_sem, Nat.reduceLT, Nat.reduceAdd, Nat.reduceSub, Nat.reduceEqDiff, Nat.reduceLeDiff, Int.reduceEq, Int.reduceBEq, Int.reduceBNe, Int.reduceNeg, UInt8.reduceToNat, Nat.reduceBEq, h1, w2, hg, hgt, hat, hst2, ipv]
          exact ⟨_, Nat.lt_succ_self _, j, a, by omega, rfl, rfl⟩
        · simp only [go_sem, Nat.reduceLT, Nat.reduceAdd, Nat.reduceSub, Nat.reduceEqDiff, Nat.reduceLeDiff, Int.reduceEq, Int.reduceBEq, Int.reduceBNe, Int.reduceNeg, UInt8.reduceToNat, Nat.reduceBEq, h1, w2, hg, hgt, hat, hst, ipv]
          exact ⟨_, ⟨j + 1, rfl, hj⟩, rfl⟩

end Go.Proofs.YtblelojdboefjaaGreat.R
