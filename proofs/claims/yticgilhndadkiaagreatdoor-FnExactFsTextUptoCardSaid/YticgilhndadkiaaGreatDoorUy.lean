/- The list of what lies in a tree: the reference's walk. -/
import Derived.Test.YticgilhndadkiaaGreatDoorUx
set_option maxRecDepth 100000
set_option linter.unusedVariables false
set_option linter.unusedSimpArgs false
namespace Go.Proofs.YticgilhndadkiaaGreatDoor.R
open Go

theorem firstP_none {l : List TInode} {ps : List (List UInt8)} {k : Int} (h : ∀ (i : Nat) (q : List UInt8), i < ps.length → ps[i]? = some q → ((walkP l q).1 == k) = false) : firstP l ps k = [] := by
  have : ps.find? (fun q => (walkP l q).1 == k) = none := by
    rw [List.find?_eq_none]
    intro q hq
    obtain ⟨i, hi⟩ := List.getElem?_of_mem hq
    simpa using h i q (List.getElem?_eq_some_iff.1 hi).1 hi
  unfold firstP; rw [this]
theorem firstP_some {l : List TInode} {ps : List (List UInt8)} {k : Int} {j : Nat} {p : List UInt8} (hp : ps[j]? = some p) (hk : ((walkP l p).1 == k) = true) (h : ∀ (i : Nat) (q : List UInt8), i < j → ps[i]? = some q → ((walkP l q).1 == k) = false) : firstP l ps k = p := by
  have : ps.find? (fun q => (walkP l q).1 == k) = some p := by
    rw [List.find?_eq_some_iff_getElem]
    obtain ⟨hi, hpi⟩ := List.getElem?_eq_some_iff.1 hp
    exact ⟨hk, j, hi, hpi, fun i hij => by simpa using h i _ hij (List.getElem?_eq_getElem (by omega))⟩
  unfold firstP; rw [this]

set_option maxHeartbeats 4000000 in
theorem l22First_ok (n : Nat) (hn : Big + 6 ≤ n) (t : TTab) (ht : t.ok) (ps : List (List UInt8)) (hps : ps.length ≤ 9000) (hp : ∀ q ∈ ps, q.length ≤ 450) (k : Int) : pcall env n 33 [.c .agg (t.pv.map argC'), .c .one [.sh true (.s 1 (ps.map ppv))], pvSV (.i .i64 k)] [] = some ⟨pvSV (.t ⟨⟨firstP t.Inodes ps k⟩⟩), []⟩ := by
  obtain ⟨m, rfl⟩ := ex_pred hn
  have hB := big_bd
  have hbd : Bd = 1048576 := rfl
  refine wq_eq (wq_pcall (fn := Tryz.f33) rfl rfl rfl (Nat.le_of_ble_eq_true rfl) ?_)
  unfold Tryz.f33
  simp only [go_sem, Nat.reduceLT, Nat.reduceAdd, Nat.reduceSub, Nat.reduceEqDiff, Nat.reduceLeDiff, Int.reduceEq, Int.reduceBEq, Int.reduceBNe, Int.reduceNeg, UInt8.reduceToNat, Nat.reduceBEq]
  refine wq_loop_at (fun r σ => ∃ j : Nat, j ≤ ps.length ∧ r = ps.length - j ∧ (∀ (i : Nat) (q : List UInt8), i < j → ps[i]? = some q → ((walkP t.Inodes q).1 == k) = false) ∧ σ = slots 32 [(1, .c .one [.sh true (.s 1 (ps.map ppv))]), (2, .c .one [.sh false (.i .i64 k)]), (3, .c .box [.sh true (.s 6 (t.Inodes.map TInode.pv)), .sh false (.i .i64 t.Next)]), (7, .c .one [.sh false (.i .i64 (j : Nat))])]) ps.length (by omega) ?_ ?_
  · simp only [go_sem, Nat.reduceLT, Nat.reduceAdd, Nat.reduceSub, Nat.reduceEqDiff, Nat.reduceLeDiff, Int.reduceEq, Int.reduceBEq, Int.reduceBNe, Int.reduceNeg, UInt8.reduceToNat, Nat.reduceBEq]
    exact ⟨0, Nat.zero_le _, rfl, fun i y hi => absurd hi (Nat.not_lt_zero _), rfl⟩
  · rintro r σ ⟨j, hj, rfl, hpr, rfl⟩
    by_cases hlt : j < ps.length
    · have h1 : ((j : Int) < (ps.length : Int)) := by omega
      have hx : ps[j]? = some ps[j] := List.getElem?_eq_getElem hlt
      have hq := hp _ (List.getElem_mem hlt)
      generalize ps[j] = q at hx hq
      have hw := walkSpec_ok m (deep hn (by decide)) t ht q (by omega)
      simp only [go_sem, tup2] at hw
      cases ha : ((walkP t.Inodes q).1 == k) with
      | true =>
        rw [firstP_some hx ha hpr]
        simp only [go_sem, Nat.reduceLT, Nat.reduceAdd, Nat.reduceSub, Nat.reduceEqDiff, Nat.reduceLeDiff, Int.reduceEq, Int.reduceBEq, Int.reduceBNe, Int.reduceNeg, UInt8.reduceToNat, Nat.reduceBEq, h1, hx, hw, ha]
        exact chk1 (by kernel_rfl)
      | false =>
        simp only [go_sem, Nat.reduceLT, Nat.reduceAdd, Nat.reduceSub, Nat.reduceEqDiff, Nat.reduceLeDiff, Int.reduceEq, Int.reduceBEq, Int.reduceBNe, Int.reduceNeg, UInt8.reduceToNat, Nat.reduceBEq, h1, hx, hw, ha, wrap_succ hlt (by omega)]
        refine chk (by kernel_rfl) ⟨_, by omega, j + 1, hlt, rfl, fun i y hi hy => ?_, by with_reducible rfl⟩
        rcases Nat.lt_succ_iff_lt_or_eq.1 hi with h | h
        · exact hpr i y h hy
        · subst h; rw [hx] at hy; injection hy with hy; subst hy; exact ha
    · have h1 : ¬ ((j : Int) < (ps.length : Int)) := by omega
      obtain rfl : j = ps.length := by omega
      rw [firstP_none hpr]
      simp only [go_sem, Nat.reduceLT, Nat.reduceAdd, Nat.reduceSub, Nat.reduceEqDiff, Nat.reduceLeDiff, Int.reduceEq, Int.reduceBEq, Int.reduceBNe, Int.reduceNeg, UInt8.reduceToNat, Nat.reduceBEq, h1]

theorem stat_cases (l : List TInode) (p : List UInt8) : (∃ c : Int, statC l p = nodeZ ++ [.sh false (.i .i64 c)] ∧ stI l p = zeroI) ∨ ∃ x, x = stI l p ∧ statC l p = nodeC x ++ [.sh false (.i .i64 0)] := by
  unfold statC stI
  cases hc : ((walkP l p).2 == 0) with
  | false => exact .inl ⟨_, rfl, rfl⟩
  | true =>
    cases hf : nodeOf l (walkP l p).1 with
    | none => exact .inl ⟨_, rfl, rfl⟩
    | some x => exact .inr ⟨x, rfl, rfl⟩
theorem dump_step {l : List TInode} {ps : List (List UInt8)} {i : Nat} {p : List UInt8} (h : ps[i]? = some p) : ((ps.take (i + 1)).map (entryP l ps)).map TEntry.pv = ((ps.take i).map (entryP l ps)).map TEntry.pv ++ [(entryP l ps p).pv] := by
  rw [List.take_add_one, h]; simp

set_option maxHeartbeats 8000000 in
theorem dumpSpec_ok (n : Nat) (hn : Big + 41 ≤ n) (t : TTab) (ht : t.ok) : ∃ fl, pcall env n 16 [.c .agg (t.pv.map argC')] [] = some ⟨.c .one [.ow fl 5 ((dumpL t).map TEntry.pv)], []⟩ := by
  obtain ⟨m, rfl⟩ := ex_pred hn
  have hB := big_bd
  have hbd : Bd = 1048576 := rfl
  have hlim : LIM = 70368744177664 := rfl
  have hpt := pathsSpec_ok m (by omega) t ht
  simp only [go_sem] at hpt
  have hlen := pathsT_len t
  have hsz := fun q (hq : q ∈ pathsT t) => path_size hq
  unfold dumpL
  generalize pathsT t = ps at hpt hlen hsz ⊢
  suffices h : @Wq _ (pcall env (m + 1) 16 [.c .agg (t.pv.map argC')] []) ⟨fun r => ∃ fl, r = ⟨.c .one [.ow fl 5 ((ps.map (entryP t.Inodes ps)).map TEntry.pv)], []⟩⟩ by
    obtain ⟨r, h1, fl, h2⟩ := h; exact ⟨fl, by rw [h1, h2]⟩
  refine wq_pcall (fn := Tryz.f16) rfl rfl rfl (Nat.le_of_ble_eq_true rfl) ?_
  unfold Tryz.f16
  simp only [go_sem, Nat.reduceLT, Nat.reduceAdd, Nat.reduceSub, Nat.reduceEqDiff, Nat.reduceLeDiff, Int.reduceEq, Int.reduceBEq, Int.reduceBNe, Int.reduceNeg, UInt8.reduceToNat, Nat.reduceBEq, hpt, Nat.zero_mul, Nat.zero_le]
  refine wq_loop_at (fun r σ => ∃ (i : Nat) (fl : Bool), i ≤ ps.length ∧ r = ps.length - i ∧ σ = slots 46 [(1, .c .box [.sh true (.s 6 (t.Inodes.map TInode.pv)), .sh false (.i .i64 t.Next)]), (3, .c .one [.ow fl 5 (((ps.take i).map (entryP t.Inodes ps)).map TEntry.pv)]), (4, .c .one [.ow false 1 (ps.map ppv)]), (5, .c .one [.sh false (.i .i64 (i : Nat))])]) ps.length (by omega) ?_ ?_
  · simp only [go_sem, Nat.reduceLT, Nat.reduceAdd, Nat.reduceSub, Nat.reduceEqDiff, Nat.reduceLeDiff, Int.reduceEq, Int.reduceBEq, Int.reduceBNe, Int.reduceNeg, UInt8.reduceToNat, Nat.reduceBEq]
    exact ⟨0, false, Nat.zero_le _, rfl, rfl⟩
  · rintro r σ ⟨i, fl, hi, rfl, rfl⟩
    by_cases hlt : i < ps.length
    · have h1 : ((i : Int) < (ps.length : Int)) := by omega
      have hx : ps[i]? = some ps[i] := List.getElem?_eq_getElem hlt
      have hq := hsz _ (List.getElem_mem hlt)
      generalize ps[i] = p at hx hq
      have hst := statSpec_ok m (by omega) t ht p (by omega)
      have hfi := l22First_ok m (by omega) t ht ps hlen hsz (stI t.Inodes p).Ino
      simp only [go_sem] at hst hfi
      have hds := dump_step (l := t.Inodes) hx
      have l1 : ((ps.take i).length + 1) * 88 ≤ LIM := by rw [List.length_take]; omega
      rcases stat_cases t.Inodes p with ⟨c, hs1, hs2⟩ | ⟨x, hs2, hs1⟩
      · rw [hs1] at hst
        rw [hs2] at hfi
        simp only [go_sem, nodeZ, zeroI] at hst hfi
        simp only [go_sem, Nat.reduceLT, Nat.reduceAdd, Nat.reduceSub, Nat.reduceEqDiff, Nat.reduceLeDiff, Int.reduceEq, Int.reduceBEq, Int.reduceBNe, Int.reduceNeg, UInt8.reduceToNat, Nat.reduceBEq, h1, hx, hst]
        refine chk (by kernel_rfl) ?_
        simp only [go_sem, Nat.reduceLT, Nat.reduceAdd, Nat.reduceSub, Nat.reduceEqDiff, Nat.reduceLeDiff, Int.reduceEq, Int.reduceBEq, Int.reduceBNe, Int.reduceNeg, UInt8.reduceToNat, Nat.reduceBEq, hx, hfi, l1]
        have he : (entryP t.Inodes ps p).pv = [.t ⟨⟨p⟩⟩, .i .i64 0, .s 1 [], .s 2 [], .t ⟨⟨firstP t.Inodes ps 0⟩⟩] := by unfold entryP; rw [hs2]; rfl
        refine chk (by kernel_rfl) ⟨_, by omega, i + 1, fl, hlt, rfl, ?_⟩
        rw [hds, he, wrap_succ hlt (by omega)]
      · rw [hs1] at hst
        rw [← hs2] at hfi
        simp only [go_sem, nodeC] at hst
        simp only [go_sem, Nat.reduceLT, Nat.reduceAdd, Nat.reduceSub, Nat.reduceEqDiff, Nat.reduceLeDiff, Int.reduceEq, Int.reduceBEq, Int.reduceBNe, Int.reduceNeg, UInt8.reduceToNat, Nat.reduceBEq, h1, hx, hst]
        refine chk (by kernel_rfl) ?_
        simp only [go_sem, Nat.reduceLT, Nat.reduceAdd, Nat.reduceSub, Nat.reduceEqDiff, Nat.reduceLeDiff, Int.reduceEq, Int.reduceBEq, Int.reduceBNe, Int.reduceNeg, UInt8.reduceToNat, Nat.reduceBEq, hx, hfi, l1]
        have he : (entryP t.Inodes ps p).pv = [.t ⟨⟨p⟩⟩, .i .i64 x.Kind, .s 1 (x.Data.map bpv), .s 2 (x.Attrs.map TAttr.pv), .t ⟨⟨firstP t.Inodes ps x.Ino⟩⟩] := by unfold entryP; rw [← hs2]; rfl
        refine chk (by kernel_rfl) ⟨_, by omega, i + 1, true, hlt, rfl, ?_⟩
        rw [hds, he, wrap_succ hlt (by omega)]
    · have h1 : ¬ ((i : Int) < (ps.length : Int)) := by omega
      obtain rfl : i = ps.length := by omega
      rw [List.take_length]
      simp only [go_sem, Nat.reduceLT, Nat.reduceAdd, Nat.reduceSub, Nat.reduceEqDiff, Nat.reduceLeDiff, Int.reduceEq, Int.reduceBEq, Int.reduceBNe, Int.reduceNeg, UInt8.reduceToNat, Nat.reduceBEq, h1]
      exact ⟨fl, rfl⟩

end Go.Proofs.YticgilhndadkiaaGreatDoor.R
