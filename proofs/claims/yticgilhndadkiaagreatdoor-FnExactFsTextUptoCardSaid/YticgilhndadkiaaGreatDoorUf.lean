/- How many entries lead to an inode. -/
import Derived.Test.YticgilhndadkiaaGreatDoorUe2
set_option maxRecDepth 100000
set_option linter.unusedVariables false
set_option linter.unusedSimpArgs false
namespace Go.Proofs.YticgilhndadkiaaGreatDoor.R
open Go

def linksE (es : List TEnt) (k : Int) : Nat := es.countP fun e => e.Ino == k
def linksX (x : TInode) (k : Int) : Nat := match x.Kind == 2 with
  | true => linksE x.Ents k
  | false => 0
def linksL (l : List TInode) (k : Int) : Nat := (l.map fun x => linksX x k).sum
theorem linksE_step {es : List TEnt} {k : Int} {i : Nat} {e : TEnt} (h : es[i]? = some e) : linksE (es.take (i + 1)) k = linksE (es.take i) k + (if (e.Ino == k) = true then 1 else 0) := by
  unfold linksE
  rw [List.take_add_one, h, List.countP_append]
  simp [List.countP_cons]
theorem linksL_step {l : List TInode} {k : Int} {j : Nat} {a : TInode} (h : l[j]? = some a) : linksL (l.take (j + 1)) k = linksL (l.take j) k + linksX a k := by
  unfold linksL
  rw [List.take_add_one, h]
  simp
theorem linksE_le (es : List TEnt) (k : Int) : linksE es k ≤ es.length := List.countP_le_length
theorem linksX_1 {a : TInode} {k : Int} (h : (a.Kind == 2) = true) : linksX a k = linksE a.Ents k := by unfold linksX; rw [h]
theorem linksX_0 {a : TInode} {k : Int} (h : (a.Kind == 2) = false) : linksX a k = 0 := by unfold linksX; rw [h]

set_option maxHeartbeats 4000000 in
theorem linksImpl_ok (n : Nat) (hn : Big + 2 ≤ n) (t : TTab) (ht : t.ok) (k : Int) : pcall env n 75 [.c .agg (t.pv.map argC'), pvSV (.i .i64 k)] [] = some ⟨pvSV (.i .i64 (linksL t.Inodes k : Nat)), []⟩ := by
  obtain ⟨m, rfl⟩ := ex_pred hn
  have hB := big_bd
  have hbd : Bd = 1048576 := rfl
  have hl := ht.Inodes.2
  have ho := ht.Inodes.1
  refine wq_eq (wq_pcall (fn := Tryz.f75) rfl rfl rfl (Nat.le_of_ble_eq_true rfl) ?_)
  unfold Tryz.f75
  simp only [go_sem, Nat.reduceLT, Nat.reduceAdd, Nat.reduceSub, Nat.reduceEqDiff, Nat.reduceLeDiff, Int.reduceEq, Int.reduceBEq, Int.reduceBNe, Int.reduceNeg, UInt8.reduceToNat]
  refine wq_loop_at (fun r σ => ∃ j c : Nat, j ≤ t.Inodes.length ∧ r = t.Inodes.length - j ∧ c = linksL (t.Inodes.take j) k ∧ c ≤ j * 1048576 ∧ σ = slots 36 [(1, .c .one [.sh false (.i .i64 k)]), (2, .c .box [.sh true (.s 6 (t.Inodes.map TInode.pv)), .sh false (.i .i64 t.Next)]), (5, .c .one [.sh false (.i .i64 (c : Nat))]), (11, .c .one [.sh true (.s 6 (t.Inodes.map TInode.pv))]), (12, .c .one [.sh false (.i .i64 (t.Inodes.length : Nat))]), (13, .c .one [.sh false (.i .i64 (j : Nat))])]) t.Inodes.length (by omega) ?_ ?_
  · simp only [go_sem, Nat.reduceLT, Nat.reduceAdd, Nat.reduceSub, Nat.reduceEqDiff, Nat.reduceLeDiff, Int.reduceEq, Int.reduceBEq, Int.reduceBNe, Int.reduceNeg, UInt8.reduceToNat]
    exact ⟨0, 0, Nat.zero_le _, rfl, rfl, Nat.zero_le _, rfl⟩
  · rintro r σ ⟨j, c, hj, rfl, hc, hcb, rfl⟩
    by_cases hlt : j < t.Inodes.length
    · have h1 : ((j : Int) < (t.Inodes.length : Int)) := by omega
      have hx : t.Inodes[j]? = some t.Inodes[j] := List.getElem?_eq_getElem hlt
      have hok := ho _ (List.getElem_mem hlt)
      generalize t.Inodes[j] = a at hx hok
      have hs := linksL_step (k := k) hx
      rw [← hc] at hs
      cases hk : (a.Kind == 2) with
      | false =>
        rw [linksX_0 hk] at hs
        have hk' : (a.Kind != 2) = true := by unfold bne; rw [hk]; rfl
        simp only [go_sem, Nat.reduceLT, Nat.reduceAdd, Nat.reduceSub, Nat.reduceEqDiff, Nat.reduceLeDiff, Int.reduceEq, Int.reduceBEq, Int.reduceBNe, Int.reduceNeg, UInt8.reduceToNat, h1, hx, hk', wrap_succ hlt (by omega)]
        exact ⟨_, by omega, j + 1, c, hlt, rfl, by omega, Nat.le_trans hcb (Nat.mul_le_mul_right _ (Nat.le_succ j)), rfl⟩
      | true =>
        rw [linksX_1 hk] at hs
        have hel := hok.Ents.2
        have hk' : (a.Kind != 2) = false := by unfold bne; rw [hk]; rfl
        simp only [go_sem, Nat.reduceLT, Nat.reduceAdd, Nat.reduceSub, Nat.reduceEqDiff, Nat.reduceLeDiff, Int.reduceEq, Int.reduceBEq, Int.reduceBNe, Int.reduceNeg, UInt8.reduceToNat, h1, hx, hk']
        refine wq_loop_at (fun r σ => ∃ i d : Nat, i ≤ a.Ents.length ∧ r = a.Ents.length - i ∧ d = c + linksE (a.Ents.take i) k ∧ σ = slots 36 [(1, .c .one [.sh false (.i .i64 k)]), (2, .c .box [.sh true (.s 6 (t.Inodes.map TInode.pv)), .sh false (.i .i64 t.Next)]), (5, .c .one [.sh false (.i .i64 (d : Nat))]), (7, .c .box [.sh false (.i .i64 a.Ino), .sh false (.i .i64 a.Kind), .sh false (.i .i64 a.Links), .sh true (.s 1 (a.Data.map bpv)), .sh true (.s 2 (a.Ents.map TEnt.pv)), .sh true (.s 2 (a.Attrs.map TAttr.pv))]), (11, .c .one [.sh true (.s 6 (t.Inodes.map TInode.pv))]), (12, .c .one [.sh false (.i .i64 (t.Inodes.length : Nat))]), (13, .c .one [.sh false (.i .i64 (j : Nat))]), (21, .c .one [.sh true (.s 2 (a.Ents.map TEnt.pv))]), (22, .c .one [.sh false (.i .i64 (a.Ents.length : Nat))]), (23, .c .one [.sh false (.i .i64 (i : Nat))])]) a.Ents.length (by omega) ?_ ?_
        · simp only [go_sem, Nat.reduceLT, Nat.reduceAdd, Nat.reduceSub, Nat.reduceEqDiff, Nat.reduceLeDiff, Int.reduceEq, Int.reduceBEq, Int.reduceBNe, Int.reduceNeg, UInt8.reduceToNat]
          exact ⟨0, c, Nat.zero_le _, rfl, rfl, rfl⟩
        · rintro r σ ⟨i, d, hi, rfl, hd, rfl⟩
          have hdb := linksE_le (a.Ents.take i) k
          rw [List.length_take] at hdb
          by_cases hlt2 : i < a.Ents.length
          · have h2 : ((i : Int) < (a.Ents.length : Int)) := by omega
            have hy : a.Ents[i]? = some a.Ents[i] := List.getElem?_eq_getElem hlt2
            generalize a.Ents[i] = e at hy
            have he := linksE_step (k := k) hy
            cases hq : (e.Ino == k) with
            | true =>
              rw [hq, if_pos rfl] at he
              have wd : IntKind.i64.wrap ((d : Int) + 1) = ((d + 1 : Nat) : Int) := by rw [wrap_in (by omega) (by omega)]; omega
              simp only [go_sem, Nat.reduceLT, Nat.reduceAdd, Nat.reduceSub, Nat.reduceEqDiff, Nat.reduceLeDiff, Int.reduceEq, Int.reduceBEq, Int.reduceBNe, Int.reduceNeg, UInt8.reduceToNat, h2, hy, hq, wd, wrap_succ hlt2 (by omega)]
              exact ⟨_, by omega, i + 1, d + 1, hlt2, rfl, by omega, rfl⟩
            | false =>
              rw [hq, if_neg (by decide)] at he
              simp only [go_sem, Nat.reduceLT, Nat.reduceAdd, Nat.reduceSub, Nat.reduceEqDiff, Nat.reduceLeDiff, Int.reduceEq, Int.reduceBEq, Int.reduceBNe, Int.reduceNeg, UInt8.reduceToNat, h2, hy, hq, wrap_succ hlt2 (by omega)]
              exact ⟨_, by omega, i + 1, d, hlt2, rfl, by omega, rfl⟩
          · have h2 : ¬ ((i : Int) < (a.Ents.length : Int)) := by omega
            obtain rfl : i = a.Ents.length := by omega
            rw [List.take_length] at hd
            have hle := linksE_le a.Ents k
            simp only [go_sem, Nat.reduceLT, Nat.reduceAdd, Nat.reduceSub, Nat.reduceEqDiff, Nat.reduceLeDiff, Int.reduceEq, Int.reduceBEq, Int.reduceBNe, Int.reduceNeg, UInt8.reduceToNat, h2, wrap_succ hlt (by omega)]
            exact ⟨_, by omega, j + 1, d, hlt, rfl, by rw [hs]; exact hd, by omega, rfl⟩
    · have h1 : ¬ ((j : Int) < (t.Inodes.length : Int)) := by omega
      obtain rfl : j = t.Inodes.length := by omega
      rw [List.take_length] at hc
      rw [← hc]
      simp only [go_sem, Nat.reduceLT, Nat.reduceAdd, Nat.reduceSub, Nat.reduceEqDiff, Nat.reduceLeDiff, Int.reduceEq, Int.reduceBEq, Int.reduceBNe, Int.reduceNeg, UInt8.reduceToNat, h1]

set_option maxHeartbeats 4000000 in
theorem linksSpec_ok (n : Nat) (hn : Big + 2 ≤ n) (t : TTab) (ht : t.ok) (k : Int) : pcall env n 66 [.c .agg (t.pv.map argC'), pvSV (.i .i64 k)] [] = some ⟨pvSV (.i .i64 (linksL t.Inodes k : Nat)), []⟩ := by
  obtain ⟨m, rfl⟩ := ex_pred hn
  have hB := big_bd
  have hbd : Bd = 1048576 := rfl
  have hl := ht.Inodes.2
  have ho := ht.Inodes.1
  refine wq_eq (wq_pcall (fn := Tryz.f66) rfl rfl rfl (Nat.le_of_ble_eq_true rfl) ?_)
  unfold Tryz.f66
  simp only [go_sem, Nat.reduceLT, Nat.reduceAdd, Nat.reduceSub, Nat.reduceEqDiff, Nat.reduceLeDiff, Int.reduceEq, Int.reduceBEq, Int.reduceBNe, Int.reduceNeg, UInt8.reduceToNat]
  refine wq_loop_at (fun r σ => ∃ j c : Nat, j ≤ t.Inodes.length ∧ r = t.Inodes.length - j ∧ c = linksL (t.Inodes.take j) k ∧ c ≤ j * 1048576 ∧ σ = slots 50 [(1, .c .one [.sh false (.i .i64 k)]), (2, .c .box [.sh true (.s 6 (t.Inodes.map TInode.pv)), .sh false (.i .i64 t.Next)]), (5, .c .one [.sh false (.i .i64 (c : Nat))]), (6, .c .one [.sh false (.i .i64 (j : Nat))])]) t.Inodes.length (by omega) ?_ ?_
  · simp only [go_sem, Nat.reduceLT, Nat.reduceAdd, Nat.reduceSub, Nat.reduceEqDiff, Nat.reduceLeDiff, Int.reduceEq, Int.reduceBEq, Int.reduceBNe, Int.reduceNeg, UInt8.reduceToNat]
    exact ⟨0, 0, Nat.zero_le _, rfl, rfl, Nat.zero_le _, rfl⟩
  · rintro r σ ⟨j, c, hj, rfl, hc, hcb, rfl⟩
    by_cases hlt : j < t.Inodes.length
    · have h1 : ((j : Int) < (t.Inodes.length : Int)) := by omega
      have hx : t.Inodes[j]? = some t.Inodes[j] := List.getElem?_eq_getElem hlt
      have hok := ho _ (List.getElem_mem hlt)
      generalize t.Inodes[j] = a at hx hok
      have hs := linksL_step (k := k) hx
      rw [← hc] at hs
      have hel := hok.Ents.2
      simp only [go_sem, Nat.reduceLT, Nat.reduceAdd, Nat.reduceSub, Nat.reduceEqDiff, Nat.reduceLeDiff, Int.reduceEq, Int.reduceBEq, Int.reduceBNe, Int.reduceNeg, UInt8.reduceToNat, h1]
      refine wq_loop_at (fun r σ => ∃ i d : Nat, i ≤ a.Ents.length ∧ ((a.Kind == 2) = false → i = 0) ∧ r = a.Ents.length - i ∧ d = c + linksE (a.Ents.take i) k ∧ σ = slots 50 [(1, .c .one [.sh false (.i .i64 k)]), (2, .c .box [.sh true (.s 6 (t.Inodes.map TInode.pv)), .sh false (.i .i64 t.Next)]), (5, .c .one [.sh false (.i .i64 (d : Nat))]), (6, .c .one [.sh false (.i .i64 (j : Nat))]), (7, .c .one [.sh false (.i .i64 (i : Nat))])]) a.Ents.length (by omega) ?_ ?_
      · simp only [go_sem, Nat.reduceLT, Nat.reduceAdd, Nat.reduceSub, Nat.reduceEqDiff, Nat.reduceLeDiff, Int.reduceEq, Int.reduceBEq, Int.reduceBNe, Int.reduceNeg, UInt8.reduceToNat]
        exact ⟨0, c, Nat.zero_le _, fun _ => rfl, rfl, rfl, rfl⟩
      · rintro r σ ⟨i, d, hi, hi0, rfl, hd, rfl⟩
        have hdb := linksE_le (a.Ents.take i) k
        rw [List.length_take] at hdb
        cases hk : (a.Kind == 2) with
        | false =>
          have := hi0 hk
          subst this
          rw [linksX_0 hk] at hs
          have hd' : d = c := hd
          subst hd'
          by_cases h2 : (0 : Int) < (a.Ents.length : Int)
          · simp only [go_sem, Nat.reduceLT, Nat.reduceAdd, Nat.reduceSub, Nat.reduceEqDiff, Nat.reduceLeDiff, Int.reduceEq, Int.reduceBEq, Int.reduceBNe, Int.reduceNeg, UInt8.reduceToNat, h2, hx, hk, wrap_succ hlt (by omega)]
            exact ⟨_, by omega, j + 1, d, hlt, rfl, by omega, Nat.le_trans hcb (Nat.mul_le_mul_right _ (Nat.le_succ j)), rfl⟩
          · simp only [go_sem, Nat.reduceLT, Nat.reduceAdd, Nat.reduceSub, Nat.reduceEqDiff, Nat.reduceLeDiff, Int.reduceEq, Int.reduceBEq, Int.reduceBNe, Int.reduceNeg, UInt8.reduceToNat, h2, hx, hk, wrap_succ hlt (by omega)]
            exact ⟨_, by omega, j + 1, d, hlt, rfl, by omega, Nat.le_trans hcb (Nat.mul_le_mul_right _ (Nat.le_succ j)), rfl⟩
        | true =>
          rw [linksX_1 hk] at hs
          by_cases hlt2 : i < a.Ents.length
          · have h2 : ((i : Int) < (a.Ents.length : Int)) := by omega
            have hy : a.Ents[i]? = some a.Ents[i] := List.getElem?_eq_getElem hlt2
            generalize a.Ents[i] = e at hy
            have he := linksE_step (k := k) hy
            cases hq : (e.Ino == k) with
            | true =>
              rw [hq, if_pos rfl] at he
              have wd : IntKind.i64.wrap ((d : Int) + 1) = ((d + 1 : Nat) : Int) := by rw [wrap_in (by omega) (by omega)]; omega
              simp only [go_sem, Nat.reduceLT, Nat.reduceAdd, Nat.reduceSub, Nat.reduceEqDiff, Nat.reduceLeDiff, Int.reduceEq, Int.reduceBEq, Int.reduceBNe, Int.reduceNeg, UInt8.reduceToNat, h2, hx, hk, hy, hq, wd, wrap_succ hlt2 (by omega)]
              exact ⟨_, by omega, i + 1, d + 1, hlt2, fun h => by simp [hk] at h, rfl, by omega, rfl⟩
            | false =>
              rw [hq, if_neg (by decide)] at he
              simp only [go_sem, Nat.reduceLT, Nat.reduceAdd, Nat.reduceSub, Nat.reduceEqDiff, Nat.reduceLeDiff, Int.reduceEq, Int.reduceBEq, Int.reduceBNe, Int.reduceNeg, UInt8.reduceToNat, h2, hx, hk, hy, hq, wrap_succ hlt2 (by omega)]
              exact ⟨_, by omega, i + 1, d, hlt2, fun h => by simp [hk] at h, rfl, by omega, rfl⟩
          · have h2 : ¬ ((i : Int) < (a.Ents.length : Int)) := by omega
            obtain rfl : i = a.Ents.length := by omega
            rw [List.take_length] at hd
            have hle := linksE_le a.Ents k
            simp only [go_sem, Nat.reduceLT, Nat.reduceAdd, Nat.reduceSub, Nat.reduceEqDiff, Nat.reduceLeDiff, Int.reduceEq, Int.reduceBEq, Int.reduceBNe, Int.reduceNeg, UInt8.reduceToNat, h2, hx, hk, wrap_succ hlt (by omega)]
            exact ⟨_, by omega, j + 1, d, hlt, rfl, by rw [hs]; exact hd, by omega, rfl⟩
    · have h1 : ¬ ((j : Int) < (t.Inodes.length : Int)) := by omega
      obtain rfl : j = t.Inodes.length := by omega
      rw [List.take_length] at hc
      rw [← hc]
      simp only [go_sem, Nat.reduceLT, Nat.reduceAdd, Nat.reduceSub, Nat.reduceEqDiff, Nat.reduceLeDiff, Int.reduceEq, Int.reduceBEq, Int.reduceBNe, Int.reduceNeg, UInt8.reduceToNat, h1]

end Go.Proofs.YticgilhndadkiaaGreatDoor.R
