/- The paths of a tree, in order. -/
import Derived.Test.YticgilhndadkiaaGreatDoorUv
set_option maxRecDepth 100000
set_option linter.unusedVariables false
set_option linter.unusedSimpArgs false
namespace Go.Proofs.YticgilhndadkiaaGreatDoor.R
open Go

noncomputable def pathsT (t : TTab) : List (List UInt8) := match treeB t with
  | true => sortTexts (pathsN t.Inodes 30 (entsOf t.Inodes 1) [])
  | false => []
theorem flat_root {t : TTab} (h : treeB t = true) : Flat' t.Inodes 30 (own t.Inodes 1) := ⟨(tree_of h).low, (tree_of h).wide 1⟩
theorem paths_few {t : TTab} (h : treeB t = true) : (pathsN t.Inodes 30 (entsOf t.Inodes 1) []).length ≤ 9000 := (flat_root h).cnt (es := entsOf t.Inodes 1) []
theorem root_some {t : TTab} (h : treeB t = true) : ∃ r ∈ t.Inodes, nodeOf t.Inodes 1 = some r := by
  have h0 := (tree_parts h).1
  unfold tabI rootI at h0
  simp only [Bool.and_eq_true] at h0
  have h3 := h0.2
  cases hr : t.Inodes.find? (fun x => x.Ino == 1) with
  | none => rw [hr] at h3; simp at h3
  | some r => exact ⟨r, (nodeOf_mem (l := t.Inodes) (k := 1) hr).1, hr⟩
theorem map_texts (l : List (List UInt8)) : (l.map fun x => [PV.t ⟨x.toArray⟩]) = l.map ppv := rfl

set_option maxHeartbeats 4000000 in
theorem pathsImpl_ok (n : Nat) (hn : Big + 40 ≤ n) (t : TTab) (ht : t.ok) : pcall env n 35 [.c .agg (t.pv.map argC')] [] = some ⟨.c .one [.ow false 1 ((pathsT t).map ppv)], []⟩ := by
  obtain ⟨m, rfl⟩ := ex_pred hn
  have htr := treeImpl_ok m (by omega) t ht
  simp only [go_sem] at htr
  refine wq_eq (wq_pcall (fn := Tryz.f35) rfl rfl rfl (Nat.le_of_ble_eq_true rfl) ?_)
  unfold Tryz.f35
  unfold pathsT
  cases htb : treeB t with
  | false =>
    simp only [go_sem, Nat.reduceLT, Nat.reduceAdd, Nat.reduceSub, Nat.reduceEqDiff, Nat.reduceLeDiff, Int.reduceEq, Int.reduceBEq, Int.reduceBNe, Int.reduceNeg, UInt8.reduceToNat, Nat.reduceBEq, htr, htb]
  | true =>
    obtain ⟨r, hrm, hno⟩ := root_some htb
    have hents : entsOf t.Inodes 1 = r.Ents := by unfold entsOf; rw [hno]
    have hat := inodeAtImpl_ok m (by omega) t ht 1
    have hfl := flat_root htb
    have hfw := paths_few htb
    unfold own at hfl
    rw [hents] at hfl hfw ⊢
    have hbl := below_ok t ht 30 (by decide) m (by omega) r (ht.Inodes.1 _ hrm) hfl [] (by simp)
    simp only [go_sem, TInode.pv] at hat hbl
    unfold atC at hat
    unfold nodeOf at hno
    rw [hno] at hat
    simp only [go_sem, nodeC] at hat
    generalize pathsN t.Inodes 30 r.Ents [] = L at hbl hfw ⊢
    by_cases hz : L.length = 0
    · have hL : L = [] := List.length_eq_zero_iff.1 hz
      subst hL
      simp only [go_sem, Nat.reduceLT, Nat.reduceAdd, Nat.reduceSub, Nat.reduceEqDiff, Nat.reduceLeDiff, Int.reduceEq, Int.reduceBEq, Int.reduceBNe, Int.reduceNeg, UInt8.reduceToNat, Nat.reduceBEq, htr, htb, hat, hbl, sortTextOrc, show texts? [] = some [] from rfl]
      rw [show sortTexts [] = [] by simp [sortTexts]]
      rfl
    · simp only [go_sem, Nat.reduceLT, Nat.reduceAdd, Nat.reduceSub, Nat.reduceEqDiff, Nat.reduceLeDiff, Int.reduceEq, Int.reduceBEq, Int.reduceBNe, Int.reduceNeg, UInt8.reduceToNat, Nat.reduceBEq, htr, htb, hat, hbl, sortTextOrc, texts_map]
      refine bq_pos (by omega) ?_
      simp only [go_sem, Nat.reduceLT, Nat.reduceAdd, Nat.reduceSub, Nat.reduceEqDiff, Nat.reduceLeDiff, Int.reduceEq, Int.reduceBEq, Int.reduceBNe, Int.reduceNeg, UInt8.reduceToNat, Nat.reduceBEq, hz, sortTexts_len, map_texts]

set_option maxHeartbeats 4000000 in
theorem pathsSpec_ok (n : Nat) (hn : Big + 40 ≤ n) (t : TTab) (ht : t.ok) : pcall env n 31 [.c .agg (t.pv.map argC')] [] = some ⟨.c .one [.ow false 1 ((pathsT t).map ppv)], []⟩ := by
  obtain ⟨m, rfl⟩ := ex_pred hn
  have htr := treeSpec_ok m (by omega) t ht
  simp only [go_sem] at htr
  refine wq_eq (wq_pcall (fn := Tryz.f31) rfl rfl rfl (Nat.le_of_ble_eq_true rfl) ?_)
  unfold Tryz.f31
  unfold pathsT
  cases htb : treeB t with
  | false =>
    have hso := l7Sort_ok m (by omega) [] (by simp)
    rw [show sortTexts [] = [] by simp [sortTexts]] at hso
    simp only [go_sem] at hso
    simp only [go_sem, Nat.reduceLT, Nat.reduceAdd, Nat.reduceSub, Nat.reduceEqDiff, Nat.reduceLeDiff, Int.reduceEq, Int.reduceBEq, Int.reduceBNe, Int.reduceNeg, UInt8.reduceToNat, Nat.reduceBEq, htr, htb, hso]
  | true =>
    have hfl := flat_root htb
    have hfw := paths_few htb
    have hbl := l7Paths_ok t ht 30 (by decide) m (by omega) 1 hfl [] (by simp) [] (by simp only [List.length_nil]; omega)
    have hso := l7Sort_ok m (by omega) (pathsN t.Inodes 30 (entsOf t.Inodes 1) []) (by omega)
    simp only [go_sem] at hbl hso
    simp only [go_sem, Nat.reduceLT, Nat.reduceAdd, Nat.reduceSub, Nat.reduceEqDiff, Nat.reduceLeDiff, Int.reduceEq, Int.reduceBEq, Int.reduceBNe, Int.reduceNeg, UInt8.reduceToNat, Nat.reduceBEq, htr, htb, hbl, hso]

end Go.Proofs.YticgilhndadkiaaGreatDoor.R
