/- The reference's sort of texts. -/
import Derived.Test.YticgilhndadkiaaGreatDoorUt
set_option maxRecDepth 100000
set_option linter.unusedVariables false
set_option linter.unusedSimpArgs false
namespace Go.Proofs.YticgilhndadkiaaGreatDoor.R
open Go

theorem left_get {α : Type} {a b : List α} {j : Nat} (h : j < a.length) : (a ++ b)[j]? = a[j]? := List.getElem?_append_left h
theorem left_set {α : Type} {a b : List α} {j : Nat} {x : α} (h : j < a.length) : (a ++ b).set j x = a.set j x ++ b := List.set_append_left _ _ h

set_option maxHeartbeats 8000000 in
theorem l7Sort_ok (n : Nat) (hn : Big + 1 ≤ n) (l : List (List UInt8)) (hl : l.length ≤ 1000000) : pcall env n 47 [.c .one [.sh true (.s 1 (l.map ppv))]] [] = some ⟨.c .one [.ow true 1 ((sortTexts l).map ppv)], []⟩ := by
  obtain ⟨m, rfl⟩ := ex_pred hn
  have hB := big_bd
  have hbd : Bd = 1048576 := rfl
  have hlim : LIM = 70368744177664 := rfl
  have l1 : l.length * 16 ≤ LIM := by omega
  refine wq_eq (wq_pcall (fn := Tryz.f47) rfl rfl rfl (Nat.le_of_ble_eq_true rfl) ?_)
  unfold Tryz.f47
  cases hlz : l with
  | nil =>
    simp only [go_sem, Nat.reduceLT, Nat.reduceAdd, Nat.reduceSub, Nat.reduceEqDiff, Nat.reduceLeDiff, Int.reduceEq, Int.reduceBEq, Int.reduceBNe, Int.reduceNeg, UInt8.reduceToNat, Nat.reduceBEq]
    have l0 : 0 ≤ LIM := Nat.zero_le _
    simp only [go_sem, Nat.reduceLT, Nat.reduceAdd, Nat.reduceSub, Nat.reduceEqDiff, Nat.reduceLeDiff, Int.reduceEq, Int.reduceBEq, Int.reduceBNe, Int.reduceNeg, UInt8.reduceToNat, Nat.reduceBEq, l0, Nat.zero_mul]
    refine wq_loop_exit (by omega) ?_
    simp only [go_sem, Nat.reduceLT, Nat.reduceAdd, Nat.reduceSub, Nat.reduceEqDiff, Nat.reduceLeDiff, Int.reduceEq, Int.reduceBEq, Int.reduceBNe, Int.reduceNeg, UInt8.reduceToNat, Nat.reduceBEq]
    refine bq_neg (by decide) ?_
    simp only [go_sem, Nat.reduceLT, Nat.reduceAdd, Nat.reduceSub, Nat.reduceEqDiff, Nat.reduceLeDiff, Int.reduceEq, Int.reduceBEq, Int.reduceBNe, Int.reduceNeg, UInt8.reduceToNat, Nat.reduceBEq]
    rw [show sortTexts [] = [] by simp [sortTexts]]
    rfl
  | cons l0 ls =>
  rw [← hlz]
  have hpos : 0 < l.length := by rw [hlz]; simp
  simp only [go_sem, Nat.reduceLT, Nat.reduceAdd, Nat.reduceSub, Nat.reduceEqDiff, Nat.reduceLeDiff, Int.reduceEq, Int.reduceBEq, Int.reduceBNe, Int.reduceNeg, UInt8.reduceToNat, Nat.reduceBEq, l1]
  refine wq_loop_at (fun r σ => ∃ (i : Nat) (S O : List (List UInt8)), i ≤ l.length ∧ 0 < i ∧ r = l.length - i ∧ Ord S ∧ S.Perm (l.take i) ∧ O = S ++ l.drop i ∧ σ = slots 47 [(3, .c .one [.ow true 1 (O.map ppv)]), (4, .c .one [.sh false (.i .i64 (i : Nat))])]) (l.length - 1) (by omega) ?_ ?_
  · simp only [go_sem, Nat.reduceLT, Nat.reduceAdd, Nat.reduceSub, Nat.reduceEqDiff, Nat.reduceLeDiff, Int.reduceEq, Int.reduceBEq, Int.reduceBNe, Int.reduceNeg, UInt8.reduceToNat, Nat.reduceBEq]
    refine ⟨1, l.take 1, l, hpos, Nat.one_pos, rfl, ?_, .refl _, (List.take_append_drop 1 l).symm, rfl⟩
    rw [hlz]; simp [Ord]
  · rintro r σ ⟨i, S, O, hi, hi0, rfl, hS, hP, hO, rfl⟩
    have hSl : S.length = i := by rw [hP.length_eq, List.length_take]; omega
    have hOl : O.length = l.length := by rw [hO, List.length_append, List.length_drop, hSl]; omega
    by_cases hlt : i < l.length
    · have h1 : ((i : Int) < (l.length : Int)) := by omega
      have hx : l[i]? = some l[i] := List.getElem?_eq_getElem hlt
      generalize l[i] = x at hx
      have hOx : O[i]? = some x := by
        rw [hO, List.getElem?_append_right (by omega), hSl, Nat.sub_self, List.getElem?_drop, Nat.add_zero, hx]
      have hO2 : O = holeL S i x ++ l.drop (i + 1) := by rw [hO, ← hSl, hole_end, hSl, drop_cons hx, List.append_assoc]; rfl
      simp only [go_sem, Nat.reduceLT, Nat.reduceAdd, Nat.reduceSub, Nat.reduceEqDiff, Nat.reduceLeDiff, Int.reduceEq, Int.reduceBEq, Int.reduceBNe, Int.reduceNeg, UInt8.reduceToNat, Nat.reduceBEq, hOl, h1, hOx, ppv]
      refine wq_loop_at (fun r σ => ∃ (k : Nat) (z : List UInt8) (O : List (List UInt8)), k ≤ S.length ∧ r = k + 1 ∧ (∀ y ∈ S.drop k, x ≤ y) ∧ O = holeL S k z ++ l.drop (i + 1) ∧ σ = slots 47 [(3, .c .one [.ow true 1 (O.map ppv)]), (4, .c .one [.sh false (.i .i64 (i : Nat))]), (5, .c .one [.sh false (.t ⟨⟨x⟩⟩)]), (6, .c .one [.sh false (.i .i64 (k : Nat))])]) (S.length + 1) (by omega) ?_ ?_
      · simp only [go_sem, Nat.reduceLT, Nat.reduceAdd, Nat.reduceSub, Nat.reduceEqDiff, Nat.reduceLeDiff, Int.reduceEq, Int.reduceBEq, Int.reduceBNe, Int.reduceNeg, UInt8.reduceToNat, Nat.reduceBEq]
        exact ⟨i, x, O, by omega, by omega, fun y hy => by rw [← hSl, List.drop_length] at hy; simp at hy, hO2, rfl⟩
      · rintro r σ ⟨k, z, O, hk, rfl, hd, hO, rfl⟩
        have hat : O[k]? = some z := by rw [hO, left_get (by rw [hole_len hk]; omega), hole_at hk]
        have hst : (O.map ppv).set k [.t ⟨⟨x⟩⟩] = (holeL S k x ++ l.drop (i + 1)).map ppv := by rw [set_ppv, hO, left_set (by rw [hole_len hk]; omega), hole_set hk]
        have done : Ord (holeL S k x) → ∃ k', k' < l.length - i ∧ ∃ (i' : Nat) (S' O' : List (List UInt8)), i' ≤ l.length ∧ 0 < i' ∧ k' = l.length - i' ∧ Ord S' ∧ S'.Perm (l.take i') ∧ O' = S' ++ l.drop i' ∧ slots 47 [(3, .c .one [.ow true 1 ((holeL S k x ++ l.drop (i + 1)).map ppv)]), (4, .c .one [.sh false (.i .i64 ((i + 1 : Nat)))])] = slots 47 [(3, .c .one [.ow true 1 (O'.map ppv)]), (4, .c .one [.sh false (.i .i64 (i' : Nat))])] := fun h =>
          ⟨_, by omega, i + 1, holeL S k x, _, hlt, by omega, rfl, h, by
            rw [List.take_add_one, hx]
            exact (hole_perm S k x).trans (hP.append_right _), rfl, rfl⟩
        cases k with
        | zero =>
          have hfin := done (ord_hole hS hk hd fun j a hj => by omega)
          simp only [go_sem, Nat.reduceLT, Nat.reduceAdd, Nat.reduceSub, Nat.reduceEqDiff, Nat.reduceLeDiff, Int.reduceEq, Int.reduceBEq, Int.reduceBNe, Int.reduceNeg, UInt8.reduceToNat, Nat.reduceBEq] at hfin
          simp only [go_sem, Nat.reduceLT, Nat.reduceAdd, Nat.reduceSub, Nat.reduceEqDiff, Nat.reduceLeDiff, Int.reduceEq, Int.reduceBEq, Int.reduceBNe, Int.reduceNeg, UInt8.reduceToNat, Nat.reduceBEq, hat, hst, wrap_succ hlt (by omega)]
          exact hfin
        | succ j =>
          have hy : S[j]? = some S[j] := List.getElem?_eq_getElem (by omega)
          generalize S[j] = a at hy
          have hgt : ((j + 1 : Nat) : Int) > 0 := by omega
          have w2 : IntKind.i64.wrap (((j + 1 : Nat) : Int) - 1) = (j : Nat) := by rw [wrap_in (by omega) (by omega)]; omega
          have hg : O[j]? = some a := by rw [hO, left_get (by rw [hole_len hk]; omega), hole_get (by omega), hy]
          have hst2 : (O.map ppv).set (j + 1) [.t ⟨⟨a⟩⟩] = (holeL S j a ++ l.drop (i + 1)).map ppv := by rw [set_ppv, hO, left_set (by rw [hole_len hk]; omega), hole_set hk, hole_down hy]
          cases hc : (Op.bytesLess a x || a == x) with
          | true =>
            have hle : a ≤ x := by rw [leq_eq] at hc; simpa using hc
            have hfin := done (ord_hole hS hk hd fun j' a' hj ha => by
              have : j' = j := by omega
              subst this
              rw [hy] at ha; injection ha with ha; subst ha; exact hle)
            simp only [go_sem, Nat.reduceLT, Nat.reduceAdd, Nat.reduceSub, Nat.reduceEqDiff, Nat.reduceLeDiff, Int.reduceEq, Int.reduceBEq, Int.reduceBNe, Int.reduceNeg, UInt8.reduceToNat, Nat.reduceBEq] at hfin
            simp only [go_sem, Nat.reduceLT, Nat.reduceAdd, Nat.reduceSub, Nat.reduceEqDiff, Nat.reduceLeDiff, Int.reduceEq, Int.reduceBEq, Int.reduceBNe, Int.reduceNeg, UInt8.reduceToNat, Nat.reduceBEq, hgt, w2, hg, hc, hat, hst, ppv, wrap_succ hlt (by omega)]
            exact hfin
          | false =>
            have hle : x ≤ a := by
              rw [leq_eq] at hc
              have : ¬ a ≤ x := by simpa using hc
              exact (List.le_total x a).resolve_right this
            simp only [go_sem, Nat.reduceLT, Nat.reduceAdd, Nat.reduceSub, Nat.reduceEqDiff, Nat.reduceLeDiff, Int.reduceEq, Int.reduceBEq, Int.reduceBNe, Int.reduceNeg, UInt8.reduceToNat, Nat.reduceBEq, hgt, w2, hg, hc, hat, hst2, ppv]
            refine ⟨_, Nat.lt_succ_self _, j, a, _, by omega, rfl, fun y hy2 => ?_, rfl, rfl⟩
            rw [drop_cons hy] at hy2
            rcases List.mem_cons.1 hy2 with rfl | h
            · exact hle
            · exact hd y h
    · have h1 : ¬ ((i : Int) < (l.length : Int)) := by omega
      obtain rfl : i = l.length := by omega
      rw [List.take_length] at hP
      rw [List.drop_length, List.append_nil] at hO
      subst hO
      rw [← ord_sort hS hP]
      simp only [go_sem, Nat.reduceLT, Nat.reduceAdd, Nat.reduceSub, Nat.reduceEqDiff, Nat.reduceLeDiff, Int.reduceEq, Int.reduceBEq, Int.reduceBNe, Int.reduceNeg, UInt8.reduceToNat, Nat.reduceBEq, hOl, h1]

end Go.Proofs.YticgilhndadkiaaGreatDoor.R
