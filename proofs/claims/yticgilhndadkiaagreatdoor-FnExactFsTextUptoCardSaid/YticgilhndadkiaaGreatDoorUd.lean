/- Copies of inodes; the inode of a number. -/
import Derived.Test.YticgilhndadkiaaGreatDoorUc
set_option maxRecDepth 100000
set_option linter.unusedVariables false
set_option linter.unusedSimpArgs false
namespace Go.Proofs.YticgilhndadkiaaGreatDoor.R
open Go

theorem lim_bd : Bd * 32 ≤ LIM := by decide
theorem pcall_orc {E : Env} {n : Nat} {f : FuncId} {g : CallF → List SV → List (List CV) → Option Ret} {args : List SV} {bs : List (List CV)} (h : E.orc f = some g) : pcall E (n + 1) f args bs = g (pcall E n) args bs := by
  simp only [pcall, h]
theorem cloneB_ok (n : Nat) (hn : Big + 1 ≤ n) (f : Bool) (rows : List (List PV)) (h : rows.length ≤ Bd) : pcall env n 95 [.c .one [.sh f (.s 1 rows)]] [] = some ⟨.c .one [.ow f 1 rows], []⟩ := by
  obtain ⟨m, rfl⟩ := ex_pred hn
  have := lim_bd
  rw [pcall_orc (g := cloneOrc 1 1) rfl]
  simp only [cloneOrc]
  rw [if_pos ⟨trivial, by omega⟩]
theorem cloneE_ok (n : Nat) (hn : Big + 1 ≤ n) (f : Bool) (rows : List (List PV)) (h : rows.length ≤ Bd) : pcall env n 96 [.c .one [.sh f (.s 2 rows)]] [] = some ⟨.c .one [.ow f 2 rows], []⟩ := by
  obtain ⟨m, rfl⟩ := ex_pred hn
  have := lim_bd
  rw [pcall_orc (g := cloneOrc 2 24) rfl]
  simp only [cloneOrc]
  rw [if_pos ⟨trivial, by omega⟩]
theorem cloneA_ok (n : Nat) (hn : Big + 1 ≤ n) (f : Bool) (rows : List (List PV)) (h : rows.length ≤ Bd) : pcall env n 97 [.c .one [.sh f (.s 2 rows)]] [] = some ⟨.c .one [.ow f 2 rows], []⟩ := by
  obtain ⟨m, rfl⟩ := ex_pred hn
  have := lim_bd
  rw [pcall_orc (g := cloneOrc 2 32) rfl]
  simp only [cloneOrc]
  rw [if_pos ⟨trivial, by omega⟩]

/-- A copy's cells. -/
def nodeC (x : TInode) : List CV := [.sh false (.i .i64 x.Ino), .sh false (.i .i64 x.Kind), .sh false (.i .i64 x.Links), .ow true 1 (x.Data.map bpv), .ow true 2 (x.Ents.map TEnt.pv), .ow true 2 (x.Attrs.map TAttr.pv)]

set_option maxHeartbeats 4000000 in
theorem copyInode_ok (n : Nat) (hn : Big + 2 ≤ n) (x : TInode) (hx : x.ok) : pcall env n 77 [.c .agg (x.pv.map argC')] [] = some ⟨.c .agg (nodeC x), []⟩ := by
  obtain ⟨m, rfl⟩ := ex_pred hn
  have h1 := cloneB_ok m (deep hn (by decide)) true (x.Data.map bpv) (by rw [List.length_map]; exact hx.Data.2)
  have h2 := cloneE_ok m (deep hn (by decide)) true (x.Ents.map TEnt.pv) (by rw [List.length_map]; exact hx.Ents.2)
  have h3 := cloneA_ok m (deep hn (by decide)) true (x.Attrs.map TAttr.pv) (by rw [List.length_map]; exact hx.Attrs.2)
  refine wq_eq (wq_pcall (fn := Tryz.f77) rfl rfl rfl (Nat.le_of_ble_eq_true rfl) ?_)
  unfold Tryz.f77
  simp only [go_sem, Nat.reduceLT, Nat.reduceAdd, Nat.reduceSub, Nat.reduceEqDiff, Nat.reduceLeDiff, Int.reduceEq, Int.reduceBEq, Int.reduceBNe, Int.reduceNeg, UInt8.reduceToNat, h1, h2, h3, nodeC]

set_option maxHeartbeats 4000000 in
theorem l3Copy_ok (n : Nat) (hn : Big + 2 ≤ n) (x : TInode) (hx : x.ok) : pcall env n 70 [.c .agg (x.pv.map argC')] [] = some ⟨.c .agg (nodeC x), []⟩ := by
  obtain ⟨m, rfl⟩ := ex_pred hn
  have hl := lim_bd
  have h1 : (x.Data.map bpv).length * 1 ≤ LIM := by rw [List.length_map]; have := hx.Data.2; omega
  have h2 : (x.Ents.map TEnt.pv).length * 24 ≤ LIM := by rw [List.length_map]; have := hx.Ents.2; omega
  have h3 : (x.Attrs.map TAttr.pv).length * 32 ≤ LIM := by rw [List.length_map]; have := hx.Attrs.2; omega
  simp only [List.length_map, Nat.mul_one] at h1 h2 h3
  refine wq_eq (wq_pcall (fn := Tryz.f70) rfl rfl rfl (Nat.le_of_ble_eq_true rfl) ?_)
  unfold Tryz.f70
  simp only [go_sem, Nat.reduceLT, Nat.reduceAdd, Nat.reduceSub, Nat.reduceEqDiff, Nat.reduceLeDiff, Int.reduceEq, Int.reduceBEq, Int.reduceBNe, Int.reduceNeg, UInt8.reduceToNat, List.length_map, Nat.zero_mul, Nat.zero_le, h1, h2, h3, nodeC]

/-- What is answered for the inode of a number: the copy, or zero cells. -/
def nodeZ : List CV := [.sh false (.i .i64 0), .sh false (.i .i64 0), .sh false (.i .i64 0), .ow false 1 [], .ow false 2 [], .ow false 2 []]
def atC (l : List TInode) (k : Int) : List CV := match l.find? (fun x => x.Ino == k) with
  | some x => nodeC x ++ [.sh false (.b true)]
  | none => nodeZ ++ [.sh false (.b false)]
theorem place_cases (l : List TInode) (k : Int) : (placeI l k = -1 ∧ l.find? (fun x => x.Ino == k) = none) ∨ ∃ (j : Nat) (x : TInode), placeI l k = (j : Nat) ∧ l[j]? = some x ∧ l.find? (fun x => x.Ino == k) = some x := by
  cases h : l.findIdx? (fun x => x.Ino == k) with
  | none =>
    left
    refine ⟨by unfold placeI; rw [h], ?_⟩
    rw [List.findIdx?_eq_none_iff] at h
    rw [List.find?_eq_none]
    intro x hx; have := h x hx; simpa using this
  | some j =>
    right
    have h' := h
    rw [List.findIdx?_eq_some_iff_getElem] at h
    obtain ⟨hj, h1, h2⟩ := h
    refine ⟨j, l[j], by unfold placeI; rw [h'], List.getElem?_eq_getElem hj, ?_⟩
    rw [List.find?_eq_some_iff_getElem]
    exact ⟨h1, j, hj, rfl, fun i hi => by simpa using h2 i hi⟩

set_option maxHeartbeats 4000000 in
theorem inodeAtImpl_ok (n : Nat) (hn : Big + 6 ≤ n) (t : TTab) (ht : t.ok) (k : Int) : pcall env n 54 [.c .agg (t.pv.map argC'), pvSV (.i .i64 k)] [] = some ⟨.c (.tup [(true, 6), (false, 1)]) (atC t.Inodes k), []⟩ := by
  obtain ⟨m, rfl⟩ := ex_pred hn
  have hc := placeOf_ok m (deep hn (by decide)) t ht k
  simp only [go_sem] at hc
  refine wq_eq (wq_pcall (fn := Tryz.f54) rfl rfl rfl (Nat.le_of_ble_eq_true rfl) ?_)
  unfold Tryz.f54
  rcases place_cases t.Inodes k with ⟨h1, h2⟩ | ⟨j, x, h1, hx, h2⟩
  · rw [h1] at hc
    unfold atC
    rw [h2]
    simp only [go_sem, Nat.reduceLT, Nat.reduceAdd, Nat.reduceSub, Nat.reduceEqDiff, Nat.reduceLeDiff, Int.reduceEq, Int.reduceBEq, Int.reduceBNe, Int.reduceNeg, UInt8.reduceToNat, hc, nodeZ]
  · rw [h1] at hc
    have hcp := copyInode_ok m (deep hn (by decide)) x (ht.Inodes.1 _ (List.mem_of_getElem? hx))
    simp only [go_sem, nodeC] at hcp
    have hneg : ¬ ((j : Int) < 0) := by omega
    unfold atC
    rw [h2]
    simp only [go_sem, Nat.reduceLT, Nat.reduceAdd, Nat.reduceSub, Nat.reduceEqDiff, Nat.reduceLeDiff, Int.reduceEq, Int.reduceBEq, Int.reduceBNe, Int.reduceNeg, UInt8.reduceToNat, hc, hneg, hx, hcp, nodeC]
set_option maxHeartbeats 4000000 in
theorem inodeAtSpec_ok (n : Nat) (hn : Big + 6 ≤ n) (t : TTab) (ht : t.ok) (k : Int) : pcall env n 49 [.c .agg (t.pv.map argC'), pvSV (.i .i64 k)] [] = some ⟨.c (.tup [(true, 6), (false, 1)]) (atC t.Inodes k), []⟩ := by
  obtain ⟨m, rfl⟩ := ex_pred hn
  have hc := l4At_ok m (deep hn (by decide)) t ht k
  simp only [go_sem] at hc
  refine wq_eq (wq_pcall (fn := Tryz.f49) rfl rfl rfl (Nat.le_of_ble_eq_true rfl) ?_)
  unfold Tryz.f49
  rcases place_cases t.Inodes k with ⟨h1, h2⟩ | ⟨j, x, h1, hx, h2⟩
  · rw [h1] at hc
    unfold atC
    rw [h2]
    simp only [go_sem, Nat.reduceLT, Nat.reduceAdd, Nat.reduceSub, Nat.reduceEqDiff, Nat.reduceLeDiff, Int.reduceEq, Int.reduceBEq, Int.reduceBNe, Int.reduceNeg, UInt8.reduceToNat, hc, nodeZ]
  · rw [h1] at hc
    have hcp := l3Copy_ok m (deep hn (by decide)) x (ht.Inodes.1 _ (List.mem_of_getElem? hx))
    simp only [go_sem, nodeC] at hcp
    have hneg : ¬ ((j : Int) < 0) := by omega
    unfold atC
    rw [h2]
    simp only [go_sem, Nat.reduceLT, Nat.reduceAdd, Nat.reduceSub, Nat.reduceEqDiff, Nat.reduceLeDiff, Int.reduceEq, Int.reduceBEq, Int.reduceBNe, Int.reduceNeg, UInt8.reduceToNat, hc, hneg, hx, hcp, nodeC]

end Go.Proofs.YticgilhndadkiaaGreatDoor.R
