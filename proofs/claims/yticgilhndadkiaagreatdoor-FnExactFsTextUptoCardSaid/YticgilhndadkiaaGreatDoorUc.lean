/- Where an inode lies in a table. -/
import Derived.Test.YticgilhndadkiaaGreatDoorUb
set_option maxRecDepth 100000
set_option linter.unusedVariables false
set_option linter.unusedSimpArgs false
namespace Go.Proofs.YticgilhndadkiaaGreatDoor.R
open Go

/-- The place of the first inode of this number; -1: there is none. -/
def placeI (l : List TInode) (k : Int) : Int := match l.findIdx? (fun x => x.Ino == k) with
  | some j => (j : Nat)
  | none => -1
theorem place_some {l : List TInode} {k : Int} {j : Nat} {a : TInode} (hx : l[j]? = some a) (ha : (a.Ino == k) = true) (hp : ∀ (i : Nat) (y : TInode), i < j → l[i]? = some y → (y.Ino == k) = false) : placeI l k = (j : Nat) := by
  have : l.findIdx? (fun x => x.Ino == k) = some j := by
    rw [List.findIdx?_eq_some_iff_getElem]
    have hj := (List.getElem?_eq_some_iff.1 hx).1
    refine ⟨hj, ?_, fun i hi => ?_⟩
    · have := (List.getElem?_eq_some_iff.1 hx).2
      rw [this]; exact ha
    · have := hp i l[i] hi (List.getElem?_eq_getElem (by omega))
      simp [this]
  unfold placeI; rw [this]
theorem place_none {l : List TInode} {k : Int} (hp : ∀ (i : Nat) (y : TInode), i < l.length → l[i]? = some y → (y.Ino == k) = false) : placeI l k = -1 := by
  have : l.findIdx? (fun x => x.Ino == k) = none := by
    rw [List.findIdx?_eq_none_iff]
    intro y hy
    obtain ⟨i, hi⟩ := List.getElem?_of_mem hy
    simpa using hp i y (List.getElem?_eq_some_iff.1 hi).1 hi
  unfold placeI; rw [this]

set_option maxHeartbeats 1000000 in
theorem l4At_ok (n : Nat) (hn : Big + 2 ≤ n) (t : TTab) (ht : t.ok) (k : Int) : pcall env n 67 [.c .agg (t.pv.map argC'), pvSV (.i .i64 k)] [] = some ⟨pvSV (.i .i64 (placeI t.Inodes k)), []⟩ := by
  obtain ⟨m, rfl⟩ := ex_pred hn
  have hB := big_bd
  have hbd : Bd = 1048576 := rfl
  have hl := ht.Inodes.2
  refine wq_eq (wq_pcall (fn := Tryz.f67) rfl rfl rfl (Nat.le_of_ble_eq_true rfl) ?_)
  unfold Tryz.f67
  simp only [go_sem, Nat.reduceLT, Nat.reduceAdd, Nat.reduceSub, Nat.reduceEqDiff, Nat.reduceLeDiff, Int.reduceEq, Int.reduceBEq, Int.reduceBNe, Int.reduceNeg, UInt8.reduceToNat]
  refine wq_loop_at (fun r σ => ∃ j : Nat, j ≤ t.Inodes.length ∧ r = t.Inodes.length - j ∧ (∀ (i : Nat) (y : TInode), i < j → t.Inodes[i]? = some y → (y.Ino == k) = false) ∧ σ = slots 22 [(1, .c .one [.sh false (.i .i64 k)]), (2, .c .box [.sh true (.s 6 (t.Inodes.map TInode.pv)), .sh false (.i .i64 t.Next)]), (5, .c .one [.sh false (.i .i64 (j : Nat))])]) t.Inodes.length (by omega) ?_ ?_
  · simp only [go_sem, Nat.reduceLT, Nat.reduceAdd, Nat.reduceSub, Nat.reduceEqDiff, Nat.reduceLeDiff, Int.reduceEq, Int.reduceBEq, Int.reduceBNe, Int.reduceNeg, UInt8.reduceToNat]
    exact ⟨0, Nat.zero_le _, rfl, fun i y hi => absurd hi (Nat.not_lt_zero _), rfl⟩
  · rintro r σ ⟨j, hj, rfl, hp, rfl⟩
    by_cases hlt : j < t.Inodes.length
    · have h1 : ((j : Int) < (t.Inodes.length : Int)) := by omega
      have hx : t.Inodes[j]? = some t.Inodes[j] := List.getElem?_eq_getElem hlt
      generalize t.Inodes[j] = a at hx
      cases ha : (a.Ino == k) with
      | true =>
        rw [place_some hx ha hp]
        simp only [go_sem, Nat.reduceLT, Nat.reduceAdd, Nat.reduceSub, Nat.reduceEqDiff, Nat.reduceLeDiff, Int.reduceEq, Int.reduceBEq, Int.reduceBNe, Int.reduceNeg, UInt8.reduceToNat, h1, hx, ha]
      | false =>
        simp only [go_sem, Nat.reduceLT, Nat.reduceAdd, Nat.reduceSub, Nat.reduceEqDiff, Nat.reduceLeDiff, Int.reduceEq, Int.reduceBEq, Int.reduceBNe, Int.reduceNeg, UInt8.reduceToNat, h1, hx, ha, wrap_succ hlt (by omega)]
        refine ⟨_, by omega, j + 1, hlt, rfl, fun i y hi hy => ?_, rfl⟩
        rcases Nat.lt_succ_iff_lt_or_eq.1 hi with h | h
        · exact hp i y h hy
        · subst h; rw [hx] at hy; injection hy with hy; subst hy; exact ha
    · have h1 : ¬ ((j : Int) < (t.Inodes.length : Int)) := by omega
      obtain rfl : j = t.Inodes.length := by omega
      rw [place_none hp]
      simp only [go_sem, Nat.reduceLT, Nat.reduceAdd, Nat.reduceSub, Nat.reduceEqDiff, Nat.reduceLeDiff, Int.reduceEq, Int.reduceBEq, Int.reduceBNe, Int.reduceNeg, UInt8.reduceToNat, h1]

theorem placeFn_ok (n : Nat) (hn : Big + 1 ≤ n) (x : TInode) (k : Int) : pcall env n 94 [.c .agg (x.pv.map argC'), .bp 0 0] [[.sh false (.i .i64 k)]] = some ⟨pvSV (.b (x.Ino == k)), [[.sh false (.i .i64 k)]]⟩ := by
  obtain ⟨m, rfl⟩ := ex_pred hn
  refine wq_eq (wq_pcall (fn := Tryz.f94) rfl rfl rfl (Nat.le_of_ble_eq_true rfl) ?_)
  unfold Tryz.f94
  simp only [go_sem, Nat.reduceLT, Nat.reduceAdd, Nat.reduceSub, Nat.reduceEqDiff, Nat.reduceLeDiff, Int.reduceEq, Int.reduceBEq, Int.reduceBNe, Int.reduceNeg, UInt8.reduceToNat]

@[go_sem] theorem mapM_one {α β : Type} {f : α → Option β} {a : α} : List.mapM f [a] = (f a).map fun y => [y] := by
  simp only [List.mapM_cons, List.mapM_nil]
  cases f a <;> rfl
@[go_sem] theorem mapM_two {α β : Type} {f : α → Option β} {a b : α} : List.mapM f [a, b] = (f a).bind fun y => (f b).map fun z => [y, z] := by
  simp only [List.mapM_cons, List.mapM_nil]
  cases f a <;> cases f b <;> rfl
@[go_sem] theorem range_one {a : Nat} : List.range' a 1 = [a] := rfl
@[go_sem] theorem range_two {a : Nat} : List.range' a 2 = [a, a + 1] := rfl
@[go_sem ↓] theorem callV_cap {E : Env} {call : CallF} {N : Nat} {ty : TypeId} {σ : St} {g : FuncId} {c : Nat} {cs : List Nat} {f : Operand} {xs : List Operand} : callV E call N ty σ (.fn g (c :: cs)) f xs = callSt E call N ty σ f xs := rfl

set_option maxHeartbeats 1000000 in
theorem indexInode_ok (n : Nat) (hn : Big + 3 ≤ n) (l : List TInode) (hl : l.length ≤ Bd) (k : Int) : pcall env n 93 [.c .one [.sh true (.s 6 (l.map TInode.pv))], .fn 94 [0]] [[.sh false (.i .i64 k)]] = some ⟨pvSV (.i .i64 (placeI l k)), [[.sh false (.i .i64 k)]]⟩ := by
  obtain ⟨m, rfl⟩ := ex_pred hn
  have hB := big_bd
  have hbd : Bd = 1048576 := rfl
  refine wq_eq (wq_pcall (fn := Tryz.f93) rfl rfl rfl (Nat.le_of_ble_eq_true rfl) ?_)
  unfold Tryz.f93
  simp only [go_sem, Nat.reduceLT, Nat.reduceAdd, Nat.reduceSub, Nat.reduceEqDiff, Nat.reduceLeDiff, Int.reduceEq, Int.reduceBEq, Int.reduceBNe, Int.reduceNeg, UInt8.reduceToNat]
  refine wq_loop_at (fun r σ => ∃ j : Nat, j ≤ l.length ∧ r = l.length - j ∧ (∀ (i : Nat) (y : TInode), i < j → l[i]? = some y → (y.Ino == k) = false) ∧ σ = slots 19 [(0, .c .one [.sh true (.s 6 (l.map TInode.pv))]), (1, .fn 94 [19]), (7, .c .one [.sh false (.i .i64 (l.length : Nat))]), (8, .c .one [.sh false (.i .i64 (j : Nat))])] ++ [.c .box [.sh false (.i .i64 k)]]) l.length (by omega) ?_ ?_
  · simp only [go_sem, Nat.reduceLT, Nat.reduceAdd, Nat.reduceSub, Nat.reduceEqDiff, Nat.reduceLeDiff, Int.reduceEq, Int.reduceBEq, Int.reduceBNe, Int.reduceNeg, UInt8.reduceToNat]
    exact ⟨0, Nat.zero_le _, rfl, fun i y hi => absurd hi (Nat.not_lt_zero _), rfl⟩
  · rintro r σ ⟨j, hj, rfl, hp, rfl⟩
    by_cases hlt : j < l.length
    · have h1 : ((j : Int) < (l.length : Int)) := by omega
      have hx : l[j]? = some l[j] := List.getElem?_eq_getElem hlt
      generalize l[j] = a at hx
      have hc := placeFn_ok m (deep hn (by decide)) a k
      simp only [go_sem] at hc
      cases ha : (a.Ino == k) with
      | true =>
        rw [place_some hx ha hp]
        simp only [go_sem, Nat.reduceLT, Nat.reduceAdd, Nat.reduceSub, Nat.reduceEqDiff, Nat.reduceLeDiff, Int.reduceEq, Int.reduceBEq, Int.reduceBNe, Int.reduceNeg, UInt8.reduceToNat, h1, hx, ha, hc]
      | false =>
        simp only [go_sem, Nat.reduceLT, Nat.reduceAdd, Nat.reduceSub, Nat.reduceEqDiff, Nat.reduceLeDiff, Int.reduceEq, Int.reduceBEq, Int.reduceBNe, Int.reduceNeg, UInt8.reduceToNat, h1, hx, ha, hc, wrap_succ hlt (by omega)]
        refine ⟨_, by omega, j + 1, hlt, rfl, fun i y hi hy => ?_, rfl⟩
        rcases Nat.lt_succ_iff_lt_or_eq.1 hi with h | h
        · exact hp i y h hy
        · subst h; rw [hx] at hy; injection hy with hy; subst hy; exact ha
    · have h1 : ¬ ((j : Int) < (l.length : Int)) := by omega
      obtain rfl : j = l.length := by omega
      rw [place_none hp]
      simp only [go_sem, Nat.reduceLT, Nat.reduceAdd, Nat.reduceSub, Nat.reduceEqDiff, Nat.reduceLeDiff, Int.reduceEq, Int.reduceBEq, Int.reduceBNe, Int.reduceNeg, UInt8.reduceToNat, h1]

theorem placeOf_ok (n : Nat) (hn : Big + 4 ≤ n) (t : TTab) (ht : t.ok) (k : Int) : pcall env n 76 [.c .agg (t.pv.map argC'), pvSV (.i .i64 k)] [] = some ⟨pvSV (.i .i64 (placeI t.Inodes k)), []⟩ := by
  obtain ⟨m, rfl⟩ := ex_pred hn
  have hc := indexInode_ok m (deep hn (by decide)) t.Inodes ht.Inodes.2 k
  simp only [go_sem] at hc
  refine wq_eq (wq_pcall (fn := Tryz.f76) rfl rfl rfl (Nat.le_of_ble_eq_true rfl) ?_)
  unfold Tryz.f76
  simp only [go_sem, Nat.reduceLT, Nat.reduceAdd, Nat.reduceSub, Nat.reduceEqDiff, Nat.reduceLeDiff, Int.reduceEq, Int.reduceBEq, Int.reduceBNe, Int.reduceNeg, UInt8.reduceToNat, hc]

end Go.Proofs.YticgilhndadkiaaGreatDoor.R
