/- Walking along a path; what is at its end. -/
import Derived.Test.YticgilhndadkiaaGreatDoorUn
set_option maxRecDepth 100000
set_option linter.unusedVariables false
set_option linter.unusedSimpArgs false
namespace Go.Proofs.YticgilhndadkiaaGreatDoor.R
open Go

/-- The number that names lead to from a number, and a code. -/
def walkF (l : List TInode) : List (List UInt8) → Int → Int × Int
  | [], k => (k, 0)
  | nm :: ns, k => match nodeOf l k with
    | none => (0, 2)
    | some x => match x.Kind == 2 with
      | false => (0, 3)
      | true => match entI x.Ents nm == 0 with
        | true => (0, 2)
        | false => walkF l ns (entI x.Ents nm)
def walkP (l : List TInode) (p : List UInt8) : Int × Int := match pathL p with
  | none => (0, 1)
  | some ns => walkF l ns 1
theorem walkF_none {l : List TInode} {nm : List UInt8} {ns : List (List UInt8)} {k : Int} (h : nodeOf l k = none) : walkF l (nm :: ns) k = (0, 2) := by
  simp only [walkF, h]
theorem walkF_kind {l : List TInode} {nm : List UInt8} {ns : List (List UInt8)} {k : Int} {x : TInode} (h : nodeOf l k = some x) (hk : (x.Kind == 2) = false) : walkF l (nm :: ns) k = (0, 3) := by
  simp only [walkF, h, hk]
theorem walkF_zero {l : List TInode} {nm : List UInt8} {ns : List (List UInt8)} {k : Int} {x : TInode} (h : nodeOf l k = some x) (hk : (x.Kind == 2) = true) (he : (entI x.Ents nm == 0) = true) : walkF l (nm :: ns) k = (0, 2) := by
  simp only [walkF, h, hk, he]
theorem walkF_next {l : List TInode} {nm : List UInt8} {ns : List (List UInt8)} {k : Int} {x : TInode} (h : nodeOf l k = some x) (hk : (x.Kind == 2) = true) (he : (entI x.Ents nm == 0) = false) : walkF l (nm :: ns) k = walkF l ns (entI x.Ents nm) := by
  simp only [walkF, h, hk, he]
theorem drop_cons {α : Type} {l : List α} {i : Nat} {a : α} (h : l[i]? = some a) : l.drop i = a :: l.drop (i + 1) := by
  obtain ⟨hj, ha⟩ := List.getElem?_eq_some_iff.1 h
  rw [List.drop_eq_getElem_cons hj, ha]
theorem path_len {p : List UInt8} {ns : List (List UInt8)} (h : pathL p = some ns) : ns.length ≤ 30 := by
  unfold pathL at h
  split at h
  · injection h with h; subst h; simp
  · split at h
    · split at h
      · rename_i hc
        injection h with h; subst h
        simp only [Bool.and_eq_true, decide_eq_true_eq] at hc
        exact hc.1
      · simp at h
    · simp at h
def tup2 (w : Int × Int) : List CV := [.sh false (.i .i64 w.1), .sh false (.i .i64 w.2)]
theorem ofBA (nm : List UInt8) : ByteArray.toList ⟨⟨nm⟩⟩ = nm := tl_lit

set_option maxHeartbeats 4000000 in
theorem l5Walk_ok (n : Nat) (hn : Big + 4 ≤ n) (t : TTab) (ht : t.ok) (ns : List (List UInt8)) (hns : ns.length ≤ Bd) : pcall env n 69 [.c .agg (t.pv.map argC'), .c .one [.sh true (.s 1 (ns.map ppv))]] [] = some ⟨.c (.tup [(false, 1), (false, 1)]) (tup2 (walkF t.Inodes ns 1)), []⟩ := by
  obtain ⟨m, rfl⟩ := ex_pred hn
  have hB := big_bd
  have hbd : Bd = 1048576 := rfl
  refine wq_eq (wq_pcall (fn := Tryz.f69) rfl rfl rfl (Nat.le_of_ble_eq_true rfl) ?_)
  unfold Tryz.f69
  simp only [go_sem, Nat.reduceLT, Nat.reduceAdd, Nat.reduceSub, Nat.reduceEqDiff, Nat.reduceLeDiff, Int.reduceEq, Int.reduceBEq, Int.reduceBNe, Int.reduceNeg, UInt8.reduceToNat, Nat.reduceBEq]
  generalize hW : walkF t.Inodes ns 1 = W
  refine wq_loop_at (fun r σ => ∃ (i : Nat) (k : Int), i ≤ ns.length ∧ r = ns.length - i ∧ walkF t.Inodes (ns.drop i) k = W ∧ σ = slots 40 [(1, .c .one [.sh true (.s 1 (ns.map ppv))]), (2, .c .box [.sh true (.s 6 (t.Inodes.map TInode.pv)), .sh false (.i .i64 t.Next)]), (6, .c .one [.sh false (.i .i64 k)]), (7, .c .one [.sh false (.i .i64 (i : Nat))])]) ns.length (by omega) ?_ ?_
  · simp only [go_sem, Nat.reduceLT, Nat.reduceAdd, Nat.reduceSub, Nat.reduceEqDiff, Nat.reduceLeDiff, Int.reduceEq, Int.reduceBEq, Int.reduceBNe, Int.reduceNeg, UInt8.reduceToNat, Nat.reduceBEq]
    exact ⟨0, 1, Nat.zero_le _, rfl, hW, rfl⟩
  · rintro r σ ⟨i, k, hi, rfl, hw, rfl⟩
    by_cases hlt : i < ns.length
    · have h1 : ((i : Int) < (ns.length : Int)) := by omega
      have hx : ns[i]? = some ns[i] := List.getElem?_eq_getElem hlt
      generalize ns[i] = nm at hx
      rw [drop_cons hx] at hw
      have hl4 := l4At_ok m (deep hn (by decide)) t ht k
      simp only [go_sem] at hl4
      rcases place_cases t.Inodes k with ⟨p1, p2⟩ | ⟨j, x, p1, hxj, p2⟩
      · rw [walkF_none p2] at hw
        subst hw
        rw [p1] at hl4
        simp only [go_sem, Nat.reduceLT, Nat.reduceAdd, Nat.reduceSub, Nat.reduceEqDiff, Nat.reduceLeDiff, Int.reduceEq, Int.reduceBEq, Int.reduceBNe, Int.reduceNeg, UInt8.reduceToNat, Nat.reduceBEq, h1, hl4, tup2]
      · have hno : nodeOf t.Inodes k = some x := p2
        rw [p1] at hl4
        have hneg : ¬ ((j : Int) < 0) := by omega
        cases hk : (x.Kind == 2) with
        | false =>
          have hk' : (x.Kind != 2) = true := by unfold bne; rw [hk]; rfl
          rw [walkF_kind hno hk] at hw
          subst hw
          simp only [go_sem, Nat.reduceLT, Nat.reduceAdd, Nat.reduceSub, Nat.reduceEqDiff, Nat.reduceLeDiff, Int.reduceEq, Int.reduceBEq, Int.reduceBNe, Int.reduceNeg, UInt8.reduceToNat, Nat.reduceBEq, h1, hl4, hneg, hxj, hk', tup2]
        | true =>
          have hk' : (x.Kind != 2) = false := by unfold bne; rw [hk]; rfl
          have hxo := ht.Inodes.1 _ (List.mem_of_getElem? hxj)
          have hen := entSpec_ok m (deep hn (by decide)) x hxo ⟨⟨nm⟩⟩
          simp only [go_sem] at hen
          cases he : (entI x.Ents nm == 0) with
          | true =>
            rw [walkF_zero hno hk he] at hw
            subst hw
            simp only [go_sem, Nat.reduceLT, Nat.reduceAdd, Nat.reduceSub, Nat.reduceEqDiff, Nat.reduceLeDiff, Int.reduceEq, Int.reduceBEq, Int.reduceBNe, Int.reduceNeg, UInt8.reduceToNat, Nat.reduceBEq, h1, hl4, hneg, hxj, hk', hx, hen, he, tup2]
            exact chk1 (by kernel_rfl)
          | false =>
            rw [walkF_next hno hk he] at hw
            simp only [go_sem, Nat.reduceLT, Nat.reduceAdd, Nat.reduceSub, Nat.reduceEqDiff, Nat.reduceLeDiff, Int.reduceEq, Int.reduceBEq, Int.reduceBNe, Int.reduceNeg, UInt8.reduceToNat, Nat.reduceBEq, h1, hl4, hneg, hxj, hk', hx, hen, he, wrap_succ hlt (by omega)]
            exact chk (by kernel_rfl) ⟨_, by omega, i + 1, _, hlt, rfl, hw, by with_reducible rfl⟩
    · have h1 : ¬ ((i : Int) < (ns.length : Int)) := by omega
      obtain rfl : i = ns.length := by omega
      rw [List.drop_length] at hw
      have hw : (k, (0 : Int)) = W := hw
      subst hw
      simp only [go_sem, Nat.reduceLT, Nat.reduceAdd, Nat.reduceSub, Nat.reduceEqDiff, Nat.reduceLeDiff, Int.reduceEq, Int.reduceBEq, Int.reduceBNe, Int.reduceNeg, UInt8.reduceToNat, Nat.reduceBEq, h1, tup2]

theorem walkSpec_ok (n : Nat) (hn : Big + 5 ≤ n) (t : TTab) (ht : t.ok) (p : List UInt8) (hp : p.length ≤ Bd) : pcall env n 48 [.c .agg (t.pv.map argC'), pvSV (.t ⟨⟨p⟩⟩)] [] = some ⟨.c (.tup [(false, 1), (false, 1)]) (tup2 (walkP t.Inodes p)), []⟩ := by
  obtain ⟨m, rfl⟩ := ex_pred hn
  have hbd : Bd = 1048576 := rfl
  have hsp := splitSpec_ok m (deep hn (by decide)) p hp
  simp only [go_sem] at hsp
  refine wq_eq (wq_pcall (fn := Tryz.f48) rfl rfl rfl (Nat.le_of_ble_eq_true rfl) ?_)
  unfold Tryz.f48
  unfold walkP
  cases hpl : pathL p with
  | none =>
    rw [hpl] at hsp
    simp only [splitS] at hsp
    simp only [go_sem, Nat.reduceLT, Nat.reduceAdd, Nat.reduceSub, Nat.reduceEqDiff, Nat.reduceLeDiff, Int.reduceEq, Int.reduceBEq, Int.reduceBNe, Int.reduceNeg, UInt8.reduceToNat, Nat.reduceBEq, hsp, tup2]
  | some ns =>
    rw [hpl] at hsp
    simp only [splitS] at hsp
    have hw := l5Walk_ok m (deep hn (by decide)) t ht ns (Nat.le_trans (path_len hpl) (by decide))
    simp only [go_sem, tup2] at hw
    simp only [go_sem, Nat.reduceLT, Nat.reduceAdd, Nat.reduceSub, Nat.reduceEqDiff, Nat.reduceLeDiff, Int.reduceEq, Int.reduceBEq, Int.reduceBNe, Int.reduceNeg, UInt8.reduceToNat, Nat.reduceBEq, hsp, hw, tup2]

set_option maxHeartbeats 4000000 in
theorem walkImpl_ok (n : Nat) (hn : Big + 8 ≤ n) (t : TTab) (ht : t.ok) (p : List UInt8) (hp : p.length ≤ Bd) : pcall env n 37 [.c .agg (t.pv.map argC'), pvSV (.t ⟨⟨p⟩⟩)] [] = some ⟨.c (.tup [(false, 1), (false, 1)]) (tup2 (walkP t.Inodes p)), []⟩ := by
  obtain ⟨m, rfl⟩ := ex_pred hn
  have hB := big_bd
  have hbd : Bd = 1048576 := rfl
  have hsp := splitImpl_ok m (deep hn (by decide)) p hp
  simp only [go_sem] at hsp
  refine wq_eq (wq_pcall (fn := Tryz.f37) rfl rfl rfl (Nat.le_of_ble_eq_true rfl) ?_)
  unfold Tryz.f37
  cases hpl : pathL p with
  | none =>
    rw [show walkP t.Inodes p = (0, 1) by unfold walkP; rw [hpl]]
    rw [hpl] at hsp
    simp only [splitI] at hsp
    simp only [go_sem, Nat.reduceLT, Nat.reduceAdd, Nat.reduceSub, Nat.reduceEqDiff, Nat.reduceLeDiff, Int.reduceEq, Int.reduceBEq, Int.reduceBNe, Int.reduceNeg, UInt8.reduceToNat, Nat.reduceBEq, hsp, tup2]
  | some ns =>
    rw [show walkP t.Inodes p = walkF t.Inodes ns 1 by unfold walkP; rw [hpl]]
    rw [hpl] at hsp
    have hnl := path_len hpl
    cases ns with
    | nil =>
      simp only [splitI] at hsp
      simp only [go_sem, Nat.reduceLT, Nat.reduceAdd, Nat.reduceSub, Nat.reduceEqDiff, Nat.reduceLeDiff, Int.reduceEq, Int.reduceBEq, Int.reduceBNe, Int.reduceNeg, UInt8.reduceToNat, Nat.reduceBEq, hsp, tup2]
      refine wq_loop_exit (by omega) ?_
      simp only [go_sem, Nat.reduceLT, Nat.reduceAdd, Nat.reduceSub, Nat.reduceEqDiff, Nat.reduceLeDiff, Int.reduceEq, Int.reduceBEq, Int.reduceBNe, Int.reduceNeg, UInt8.reduceToNat, Nat.reduceBEq, tup2, walkF]
    | cons a ns =>
    simp only [splitI] at hsp
    generalize hqs : a :: ns = qs at hsp hnl ⊢
    generalize hW : walkF t.Inodes qs 1 = W
    simp only [go_sem, Nat.reduceLT, Nat.reduceAdd, Nat.reduceSub, Nat.reduceEqDiff, Nat.reduceLeDiff, Int.reduceEq, Int.reduceBEq, Int.reduceBNe, Int.reduceNeg, UInt8.reduceToNat, Nat.reduceBEq, hsp, tup2]
    refine wq_loop_at (fun r σ => ∃ (i : Nat) (k : Int), i ≤ qs.length ∧ r = qs.length - i ∧ walkF t.Inodes (qs.drop i) k = W ∧ σ = slots 46 [(2, .c .box [.sh true (.s 6 (t.Inodes.map TInode.pv)), .sh false (.i .i64 t.Next)]), (8, .c .one [.sh false (.i .i64 k)]), (20, .c .one [.sh false (.s 1 (qs.map ppv))]), (21, .c .one [.sh false (.i .i64 (qs.length : Nat))]), (22, .c .one [.sh false (.i .i64 (i : Nat))])]) qs.length (by omega) ?_ ?_
    · simp only [go_sem, Nat.reduceLT, Nat.reduceAdd, Nat.reduceSub, Nat.reduceEqDiff, Nat.reduceLeDiff, Int.reduceEq, Int.reduceBEq, Int.reduceBNe, Int.reduceNeg, UInt8.reduceToNat, Nat.reduceBEq]
      exact ⟨0, 1, Nat.zero_le _, rfl, hW, rfl⟩
    · rintro r σ ⟨i, k, hi, rfl, hw, rfl⟩
      by_cases hlt : i < qs.length
      · have h1 : ((i : Int) < (qs.length : Int)) := by omega
        have hx : qs[i]? = some qs[i] := List.getElem?_eq_getElem hlt
        generalize qs[i] = nm at hx
        rw [drop_cons hx] at hw
        have hat := inodeAtImpl_ok m (deep hn (by decide)) t ht k
        simp only [go_sem] at hat
        unfold atC at hat
        cases hf : nodeOf t.Inodes k with
        | none =>
          rw [walkF_none hf] at hw
          unfold nodeOf at hf
          rw [hf] at hat
          simp only [go_sem, nodeZ] at hat
          subst hw
          simp only [go_sem, Nat.reduceLT, Nat.reduceAdd, Nat.reduceSub, Nat.reduceEqDiff, Nat.reduceLeDiff, Int.reduceEq, Int.reduceBEq, Int.reduceBNe, Int.reduceNeg, UInt8.reduceToNat, Nat.reduceBEq, h1, hx, hat, tup2]
        | some x =>
          have hno := hf
          have hxo := ht.Inodes.1 _ (nodeOf_mem hf).1
          unfold nodeOf at hf
          rw [hf] at hat
          simp only [go_sem, nodeC] at hat
          cases hk : (x.Kind == 2) with
          | false =>
            have hk' : (x.Kind != 2) = true := by unfold bne; rw [hk]; rfl
            rw [walkF_kind hno hk] at hw
            subst hw
            simp only [go_sem, Nat.reduceLT, Nat.reduceAdd, Nat.reduceSub, Nat.reduceEqDiff, Nat.reduceLeDiff, Int.reduceEq, Int.reduceBEq, Int.reduceBNe, Int.reduceNeg, UInt8.reduceToNat, Nat.reduceBEq, h1, hx, hat, hk', tup2]
          | true =>
            have hk' : (x.Kind != 2) = false := by unfold bne; rw [hk]; rfl
            have hen := entImpl_ok m (deep hn (by decide)) x hxo ⟨⟨nm⟩⟩
            simp only [go_sem] at hen
            cases he : (entI x.Ents nm == 0) with
            | true =>
              rw [walkF_zero hno hk he] at hw
              subst hw
              simp only [go_sem, Nat.reduceLT, Nat.reduceAdd, Nat.reduceSub, Nat.reduceEqDiff, Nat.reduceLeDiff, Int.reduceEq, Int.reduceBEq, Int.reduceBNe, Int.reduceNeg, UInt8.reduceToNat, Nat.reduceBEq, h1, hx, hat, hk', hen, he, tup2]
            | false =>
              rw [walkF_next hno hk he] at hw
              simp only [go_sem, Nat.reduceLT, Nat.reduceAdd, Nat.reduceSub, Nat.reduceEqDiff, Nat.reduceLeDiff, Int.reduceEq, Int.reduceBEq, Int.reduceBNe, Int.reduceNeg, UInt8.reduceToNat, Nat.reduceBEq, h1, hx, hat, hk', hen, he, wrap_succ hlt (by omega)]
              exact ⟨_, by omega, i + 1, _, hlt, rfl, hw, by with_reducible rfl⟩
      · have h1 : ¬ ((i : Int) < (qs.length : Int)) := by omega
        obtain rfl : i = qs.length := by omega
        rw [List.drop_length] at hw
        have hw : (k, (0 : Int)) = W := hw
        subst hw
        simp only [go_sem, Nat.reduceLT, Nat.reduceAdd, Nat.reduceSub, Nat.reduceEqDiff, Nat.reduceLeDiff, Int.reduceEq, Int.reduceBEq, Int.reduceBNe, Int.reduceNeg, UInt8.reduceToNat, Nat.reduceBEq, h1, tup2]

/-- What is told of a path: the inode, and a code. -/
def statC (l : List TInode) (p : List UInt8) : List CV := match (walkP l p).2 == 0 with
  | false => nodeZ ++ [.sh false (.i .i64 (walkP l p).2)]
  | true => match nodeOf l (walkP l p).1 with
    | none => nodeZ ++ [.sh false (.i .i64 2)]
    | some x => nodeC x ++ [.sh false (.i .i64 0)]
set_option maxHeartbeats 4000000 in
theorem statImpl_ok (n : Nat) (hn : Big + 9 ≤ n) (t : TTab) (ht : t.ok) (p : List UInt8) (hp : p.length ≤ Bd) : pcall env n 36 [.c .agg (t.pv.map argC'), pvSV (.t ⟨⟨p⟩⟩)] [] = some ⟨.c (.tup [(true, 6), (false, 1)]) (statC t.Inodes p), []⟩ := by
  obtain ⟨m, rfl⟩ := ex_pred hn
  have hbd : Bd = 1048576 := rfl
  have hwk := walkImpl_ok m (deep hn (by decide)) t ht p hp
  have hat := inodeAtImpl_ok m (deep hn (by decide)) t ht (walkP t.Inodes p).1
  simp only [go_sem, tup2] at hwk hat
  refine wq_eq (wq_pcall (fn := Tryz.f36) rfl rfl rfl (Nat.le_of_ble_eq_true rfl) ?_)
  unfold Tryz.f36
  unfold statC
  cases hc : ((walkP t.Inodes p).2 == 0) with
  | false =>
    have hc' : ((walkP t.Inodes p).2 != 0) = true := by unfold bne; rw [hc]; rfl
    simp only [go_sem, Nat.reduceLT, Nat.reduceAdd, Nat.reduceSub, Nat.reduceEqDiff, Nat.reduceLeDiff, Int.reduceEq, Int.reduceBEq, Int.reduceBNe, Int.reduceNeg, UInt8.reduceToNat, Nat.reduceBEq, hwk, hc', nodeZ]
  | true =>
    have hc' : ((walkP t.Inodes p).2 != 0) = false := by unfold bne; rw [hc]; rfl
    unfold atC at hat
    cases hf : nodeOf t.Inodes (walkP t.Inodes p).1 with
    | none =>
      unfold nodeOf at hf
      rw [hf] at hat
      simp only [go_sem, nodeZ] at hat
      simp only [go_sem, Nat.reduceLT, Nat.reduceAdd, Nat.reduceSub, Nat.reduceEqDiff, Nat.reduceLeDiff, Int.reduceEq, Int.reduceBEq, Int.reduceBNe, Int.reduceNeg, UInt8.reduceToNat, Nat.reduceBEq, hwk, hc', hat, nodeZ]
    | some x =>
      unfold nodeOf at hf
      rw [hf] at hat
      simp only [go_sem, nodeC] at hat
      simp only [go_sem, Nat.reduceLT, Nat.reduceAdd, Nat.reduceSub, Nat.reduceEqDiff, Nat.reduceLeDiff, Int.reduceEq, Int.reduceBEq, Int.reduceBNe, Int.reduceNeg, UInt8.reduceToNat, Nat.reduceBEq, hwk, hc', hat, nodeC]
set_option maxHeartbeats 4000000 in
theorem statSpec_ok (n : Nat) (hn : Big + 9 ≤ n) (t : TTab) (ht : t.ok) (p : List UInt8) (hp : p.length ≤ Bd) : pcall env n 32 [.c .agg (t.pv.map argC'), pvSV (.t ⟨⟨p⟩⟩)] [] = some ⟨.c (.tup [(true, 6), (false, 1)]) (statC t.Inodes p), []⟩ := by
  obtain ⟨m, rfl⟩ := ex_pred hn
  have hbd : Bd = 1048576 := rfl
  have hwk := walkSpec_ok m (deep hn (by decide)) t ht p hp
  have hat := inodeAtSpec_ok m (deep hn (by decide)) t ht (walkP t.Inodes p).1
  simp only [go_sem, tup2] at hwk hat
  refine wq_eq (wq_pcall (fn := Tryz.f32) rfl rfl rfl (Nat.le_of_ble_eq_true rfl) ?_)
  unfold Tryz.f32
  unfold statC
  cases hc : ((walkP t.Inodes p).2 == 0) with
  | false =>
    have hc' : ((walkP t.Inodes p).2 != 0) = true := by unfold bne; rw [hc]; rfl
    simp only [go_sem, Nat.reduceLT, Nat.reduceAdd, Nat.reduceSub, Nat.reduceEqDiff, Nat.reduceLeDiff, Int.reduceEq, Int.reduceBEq, Int.reduceBNe, Int.reduceNeg, UInt8.reduceToNat, Nat.reduceBEq, hwk, hc', nodeZ]
  | true =>
    have hc' : ((walkP t.Inodes p).2 != 0) = false := by unfold bne; rw [hc]; rfl
    unfold atC at hat
    cases hf : nodeOf t.Inodes (walkP t.Inodes p).1 with
    | none =>
      unfold nodeOf at hf
      rw [hf] at hat
      simp only [go_sem, nodeZ] at hat
      simp only [go_sem, Nat.reduceLT, Nat.reduceAdd, Nat.reduceSub, Nat.reduceEqDiff, Nat.reduceLeDiff, Int.reduceEq, Int.reduceBEq, Int.reduceBNe, Int.reduceNeg, UInt8.reduceToNat, Nat.reduceBEq, hwk, hc', hat, nodeZ]
    | some x =>
      unfold nodeOf at hf
      rw [hf] at hat
      simp only [go_sem, nodeC] at hat
      simp only [go_sem, Nat.reduceLT, Nat.reduceAdd, Nat.reduceSub, Nat.reduceEqDiff, Nat.reduceLeDiff, Int.reduceEq, Int.reduceBEq, Int.reduceBNe, Int.reduceNeg, UInt8.reduceToNat, Nat.reduceBEq, hwk, hc', hat, nodeC]

end Go.Proofs.YticgilhndadkiaaGreatDoor.R
