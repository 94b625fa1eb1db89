/- What a tree takes up: both programs count the same. -/
import Derived.Test.YticgilhndadkiaaGreatDoorXg
set_option maxRecDepth 100000
set_option linter.unusedVariables false
set_option linter.unusedSimpArgs false
namespace Go.Proofs.YticgilhndadkiaaGreatDoor.R
open Go

def attrU : List TAttr → Nat
  | [] => 0
  | a :: l => a.Name.size + a.Val.size + attrU l
def inoU (x : TInode) : Nat := 32 + x.Data.length + attrU x.Attrs
def useU : List TInode → Nat
  | [] => 0
  | x :: l => inoU x + useU l
theorem attrU_drop {l : List TAttr} {j : Nat} {a : TAttr} (h : l[j]? = some a) : attrU (l.drop j) = a.Name.size + a.Val.size + attrU (l.drop (j + 1)) := by rw [drop_cons h]; rfl
theorem useU_drop {l : List TInode} {j : Nat} {x : TInode} (h : l[j]? = some x) : useU (l.drop j) = 32 + x.Data.length + attrU x.Attrs + useU (l.drop (j + 1)) := by rw [drop_cons h]; rfl
theorem attrU_le : ∀ {l : List TAttr}, (∀ a ∈ l, a.ok) → attrU l ≤ l.length * 2097152
  | [], _ => Nat.zero_le _
  | a :: l, h => by
    have ih := attrU_le fun b hb => h b (List.mem_cons_of_mem a hb)
    have o := h a (by simp)
    have o1 := o.Name; have o2 := o.Val
    have hb : Bd = 1048576 := rfl
    unfold okS at o1 o2
    simp only [attrU, List.length_cons]
    omega
theorem inoU_le {x : TInode} (hx : x.ok) : inoU x ≤ 2199024304160 := by
  have h3 := hx.Data.2; have h4 := hx.Attrs.2
  have hb : Bd = 1048576 := rfl
  have ha := attrU_le hx.Attrs.1
  unfold inoU
  omega
theorem useU_le : ∀ {l : List TInode}, (∀ x ∈ l, x.ok) → useU l ≤ l.length * 2199024304160
  | [], _ => Nat.zero_le _
  | a :: l, h => by
    have ih := useU_le fun b hb => h b (List.mem_cons_of_mem a hb)
    have o := inoU_le (h a (by simp))
    simp only [useU, List.length_cons]
    omega
theorem use_lim {t : TTab} (ht : t.ok) : useU t.Inodes ≤ 4611686018427387904 := by
  have h := useU_le ht.Inodes.1
  have h2 := ht.Inodes.2
  have hb : Bd = 1048576 := rfl
  omega
theorem wrap_add {a b : Nat} (h : a + b ≤ 9223372036854775807) : IntKind.i64.wrap ((a : Int) + (b : Int)) = ((a + b : Nat) : Int) := by
  rw [wrap_in (by omega) (by omega)]; omega
theorem wrap_32 {a : Nat} (h : a + 32 ≤ 9223372036854775807) : IntKind.i64.wrap ((a : Int) + 32) = ((a + 32 : Nat) : Int) := by
  rw [wrap_in (by omega) (by omega)]; omega
theorem wrap_32' {a : Nat} (h : 32 + a ≤ 9223372036854775807) : IntKind.i64.wrap (32 + (a : Int)) = ((32 + a : Nat) : Int) := by
  rw [wrap_in (by omega) (by omega)]; omega

set_option maxHeartbeats 4000000 in
theorem usageSpec_ok (n : Nat) (hn : Big + 2 ≤ n) (t : TTab) (ht : t.ok) : pcall env n 25 [.c .agg (t.pv.map argC')] [] = some ⟨pvSV (.i .i64 (useU t.Inodes : Nat)), []⟩ := by
  obtain ⟨m, rfl⟩ := ex_pred hn
  have hB := big_bd
  have hbd : Bd = 1048576 := rfl
  have hU := use_lim ht
  obtain ⟨ho, hlen⟩ := ht.Inodes
  refine wq_eq (wq_pcall (fn := Tryz.f25) rfl rfl rfl (Nat.le_of_ble_eq_true rfl) ?_)
  unfold Tryz.f25
  simp only [go_sem, Nat.reduceLT, Nat.reduceAdd, Nat.reduceSub, Nat.reduceEqDiff, Nat.reduceLeDiff, Int.reduceEq, Int.reduceBEq, Int.reduceBNe, Int.reduceNeg, UInt8.reduceToNat, Nat.reduceBEq]
  refine wq_loop_at (fun r σ => ∃ i s : Nat, i ≤ t.Inodes.length ∧ r = t.Inodes.length - i ∧ s + useU (t.Inodes.drop i) = useU t.Inodes ∧ σ = slots 50 [(1, .c .box [.sh true (.s 6 (t.Inodes.map TInode.pv)), .sh false (.i .i64 t.Next)]), (3, .c .one [.sh false (.i .i64 (s : Nat))]), (4, .c .one [.sh false (.i .i64 (i : Nat))])]) t.Inodes.length (by omega) ?_ ?_
  · simp only [go_sem, Nat.reduceLT, Nat.reduceAdd, Nat.reduceSub, Nat.reduceEqDiff, Nat.reduceLeDiff, Int.reduceEq, Int.reduceBEq, Int.reduceBNe, Int.reduceNeg, UInt8.reduceToNat, Nat.reduceBEq]
    exact ⟨0, 0, Nat.zero_le _, rfl, by rw [List.drop_zero, Nat.zero_add], rfl⟩
  · rintro r σ ⟨i, s, hi, rfl, he, rfl⟩
    by_cases hlt : i < t.Inodes.length
    · have h1 : ((i : Int) < (t.Inodes.length : Int)) := by omega
      have hx : t.Inodes[i]? = some t.Inodes[i] := List.getElem?_eq_getElem hlt
      have hox := ho _ (List.getElem_mem hlt)
      generalize t.Inodes[i] = x at hx hox
      obtain ⟨hod, hdl⟩ := hox.Data
      obtain ⟨hoa, hal⟩ := hox.Attrs
      rw [useU_drop hx] at he
      have w1 := wrap_32 (a := s) (by omega)
      have w2 := wrap_add (a := s + 32) (b := x.Data.length) (by omega)
      simp only [go_sem, Nat.reduceLT, Nat.reduceAdd, Nat.reduceSub, Nat.reduceEqDiff, Nat.reduceLeDiff, Int.reduceEq, Int.reduceBEq, Int.reduceBNe, Int.reduceNeg, UInt8.reduceToNat, Nat.reduceBEq, h1, hx, w1, w2]
      refine wq_loop_at (fun r' σ => ∃ j u : Nat, j ≤ x.Attrs.length ∧ r' = x.Attrs.length - j ∧ u + attrU (x.Attrs.drop j) = s + 32 + x.Data.length + attrU x.Attrs ∧ σ = slots 50 [(1, .c .box [.sh true (.s 6 (t.Inodes.map TInode.pv)), .sh false (.i .i64 t.Next)]), (3, .c .one [.sh false (.i .i64 (u : Nat))]), (4, .c .one [.sh false (.i .i64 (i : Nat))]), (5, .c .box [.sh false (.i .i64 x.Ino), .sh false (.i .i64 x.Kind), .sh false (.i .i64 x.Links), .sh true (.s 1 (x.Data.map bpv)), .sh true (.s 2 (x.Ents.map TEnt.pv)), .sh true (.s 2 (x.Attrs.map TAttr.pv))]), (6, .c .one [.sh false (.i .i64 (j : Nat))])]) x.Attrs.length (by omega) ?_ ?_
      · simp only [go_sem, Nat.reduceLT, Nat.reduceAdd, Nat.reduceSub, Nat.reduceEqDiff, Nat.reduceLeDiff, Int.reduceEq, Int.reduceBEq, Int.reduceBNe, Int.reduceNeg, UInt8.reduceToNat, Nat.reduceBEq]
        exact ⟨0, s + 32 + x.Data.length, Nat.zero_le _, rfl, by rw [List.drop_zero], rfl⟩
      · rintro r' σ ⟨j, u, hj, rfl, he2, rfl⟩
        by_cases hlt2 : j < x.Attrs.length
        · have h2 : ((j : Int) < (x.Attrs.length : Int)) := by omega
          have hy : x.Attrs[j]? = some x.Attrs[j] := List.getElem?_eq_getElem hlt2
          generalize x.Attrs[j] = a at hy
          rw [attrU_drop hy] at he2
          have v1 := wrap_add (a := u) (b := a.Name.size) (by omega)
          have v2 := wrap_add (a := u + a.Name.size) (b := a.Val.size) (by omega)
          simp only [go_sem, Nat.reduceLT, Nat.reduceAdd, Nat.reduceSub, Nat.reduceEqDiff, Nat.reduceLeDiff, Int.reduceEq, Int.reduceBEq, Int.reduceBNe, Int.reduceNeg, UInt8.reduceToNat, Nat.reduceBEq, h2, hy, v1, v2, wrap_succ hlt2 (by omega)]
          refine chk (by kernel_rfl) ⟨_, by omega, j + 1, u + a.Name.size + a.Val.size, hlt2, rfl, by omega, by with_reducible rfl⟩
        · have h2 : ¬ ((j : Int) < (x.Attrs.length : Int)) := by omega
          obtain rfl : j = x.Attrs.length := by omega
          rw [List.drop_length] at he2
          simp only [attrU] at he2
          simp only [go_sem, Nat.reduceLT, Nat.reduceAdd, Nat.reduceSub, Nat.reduceEqDiff, Nat.reduceLeDiff, Int.reduceEq, Int.reduceBEq, Int.reduceBNe, Int.reduceNeg, UInt8.reduceToNat, Nat.reduceBEq, h2, wrap_succ hlt (by omega)]
          exact ⟨_, by omega, i + 1, u, hlt, rfl, by omega, by with_reducible rfl⟩
    · have h1 : ¬ ((i : Int) < (t.Inodes.length : Int)) := by omega
      obtain rfl : i = t.Inodes.length := by omega
      rw [List.drop_length] at he
      simp only [useU, Nat.add_zero] at he
      rw [← he]
      simp only [go_sem, Nat.reduceLT, Nat.reduceAdd, Nat.reduceSub, Nat.reduceEqDiff, Nat.reduceLeDiff, Int.reduceEq, Int.reduceBEq, Int.reduceBNe, Int.reduceNeg, UInt8.reduceToNat, Nat.reduceBEq, h1]

set_option maxHeartbeats 4000000 in
theorem usageImpl_ok (n : Nat) (hn : Big + 2 ≤ n) (t : TTab) (ht : t.ok) : pcall env n 28 [.c .agg (t.pv.map argC')] [] = some ⟨pvSV (.i .i64 (useU t.Inodes : Nat)), []⟩ := by
  obtain ⟨m, rfl⟩ := ex_pred hn
  have hB := big_bd
  have hbd : Bd = 1048576 := rfl
  have hU := use_lim ht
  obtain ⟨ho, hlen⟩ := ht.Inodes
  refine wq_eq (wq_pcall (fn := Tryz.f28) rfl rfl rfl (Nat.le_of_ble_eq_true rfl) ?_)
  unfold Tryz.f28
  simp only [go_sem, Nat.reduceLT, Nat.reduceAdd, Nat.reduceSub, Nat.reduceEqDiff, Nat.reduceLeDiff, Int.reduceEq, Int.reduceBEq, Int.reduceBNe, Int.reduceNeg, UInt8.reduceToNat, Nat.reduceBEq]
  refine wq_loop_at (fun r σ => ∃ i s : Nat, i ≤ t.Inodes.length ∧ r = t.Inodes.length - i ∧ s + useU (t.Inodes.drop i) = useU t.Inodes ∧ σ = slots 40 [(1, .c .box [.sh true (.s 6 (t.Inodes.map TInode.pv)), .sh false (.i .i64 t.Next)]), (3, .c .one [.sh false (.i .i64 (s : Nat))]), (9, .c .one [.sh true (.s 6 (t.Inodes.map TInode.pv))]), (10, .c .one [.sh false (.i .i64 (t.Inodes.length : Nat))]), (11, .c .one [.sh false (.i .i64 (i : Nat))])]) t.Inodes.length (by omega) ?_ ?_
  · simp only [go_sem, Nat.reduceLT, Nat.reduceAdd, Nat.reduceSub, Nat.reduceEqDiff, Nat.reduceLeDiff, Int.reduceEq, Int.reduceBEq, Int.reduceBNe, Int.reduceNeg, UInt8.reduceToNat, Nat.reduceBEq]
    exact ⟨0, 0, Nat.zero_le _, rfl, by rw [List.drop_zero, Nat.zero_add], rfl⟩
  · rintro r σ ⟨i, s, hi, rfl, he, rfl⟩
    by_cases hlt : i < t.Inodes.length
    · have h1 : ((i : Int) < (t.Inodes.length : Int)) := by omega
      have hx : t.Inodes[i]? = some t.Inodes[i] := List.getElem?_eq_getElem hlt
      have hox := ho _ (List.getElem_mem hlt)
      generalize t.Inodes[i] = x at hx hox
      obtain ⟨hod, hdl⟩ := hox.Data
      obtain ⟨hoa, hal⟩ := hox.Attrs
      rw [useU_drop hx] at he
      have w1 := wrap_32' (a := x.Data.length) (by omega)
      have w2 := wrap_add (a := s) (b := 32 + x.Data.length) (by omega)
      simp only [go_sem, Nat.reduceLT, Nat.reduceAdd, Nat.reduceSub, Nat.reduceEqDiff, Nat.reduceLeDiff, Int.reduceEq, Int.reduceBEq, Int.reduceBNe, Int.reduceNeg, UInt8.reduceToNat, Nat.reduceBEq, h1, hx, w1, w2]
      refine wq_loop_at (fun r' σ => ∃ j u : Nat, j ≤ x.Attrs.length ∧ r' = x.Attrs.length - j ∧ u + attrU (x.Attrs.drop j) = s + (32 + x.Data.length) + attrU x.Attrs ∧ σ = slots 40 [(1, .c .box [.sh true (.s 6 (t.Inodes.map TInode.pv)), .sh false (.i .i64 t.Next)]), (3, .c .one [.sh false (.i .i64 (u : Nat))]), (5, .c .box [.sh false (.i .i64 x.Ino), .sh false (.i .i64 x.Kind), .sh false (.i .i64 x.Links), .sh true (.s 1 (x.Data.map bpv)), .sh true (.s 2 (x.Ents.map TEnt.pv)), .sh true (.s 2 (x.Attrs.map TAttr.pv))]), (9, .c .one [.sh true (.s 6 (t.Inodes.map TInode.pv))]), (10, .c .one [.sh false (.i .i64 (t.Inodes.length : Nat))]), (11, .c .one [.sh false (.i .i64 (i : Nat))]), (22, .c .one [.sh true (.s 2 (x.Attrs.map TAttr.pv))]), (23, .c .one [.sh false (.i .i64 (x.Attrs.length : Nat))]), (24, .c .one [.sh false (.i .i64 (j : Nat))])]) x.Attrs.length (by omega) ?_ ?_
      · simp only [go_sem, Nat.reduceLT, Nat.reduceAdd, Nat.reduceSub, Nat.reduceEqDiff, Nat.reduceLeDiff, Int.reduceEq, Int.reduceBEq, Int.reduceBNe, Int.reduceNeg, UInt8.reduceToNat, Nat.reduceBEq]
        exact ⟨0, s + (32 + x.Data.length), Nat.zero_le _, rfl, by rw [List.drop_zero], rfl⟩
      · rintro r' σ ⟨j, u, hj, rfl, he2, rfl⟩
        by_cases hlt2 : j < x.Attrs.length
        · have h2 : ((j : Int) < (x.Attrs.length : Int)) := by omega
          have hy : x.Attrs[j]? = some x.Attrs[j] := List.getElem?_eq_getElem hlt2
          generalize x.Attrs[j] = a at hy
          rw [attrU_drop hy] at he2
          have v1 := wrap_add (a := a.Name.size) (b := a.Val.size) (by omega)
          have v2 := wrap_add (a := u) (b := a.Name.size + a.Val.size) (by omega)
          simp only [go_sem, Nat.reduceLT, Nat.reduceAdd, Nat.reduceSub, Nat.reduceEqDiff, Nat.reduceLeDiff, Int.reduceEq, Int.reduceBEq, Int.reduceBNe, Int.reduceNeg, UInt8.reduceToNat, Nat.reduceBEq, h2, hy, v1, v2, wrap_succ hlt2 (by omega)]
          refine ⟨_, by omega, j + 1, u + (a.Name.size + a.Val.size), hlt2, rfl, by omega, by with_reducible rfl⟩
        · have h2 : ¬ ((j : Int) < (x.Attrs.length : Int)) := by omega
          obtain rfl : j = x.Attrs.length := by omega
          rw [List.drop_length] at he2
          simp only [attrU] at he2
          simp only [go_sem, Nat.reduceLT, Nat.reduceAdd, Nat.reduceSub, Nat.reduceEqDiff, Nat.reduceLeDiff, Int.reduceEq, Int.reduceBEq, Int.reduceBNe, Int.reduceNeg, UInt8.reduceToNat, Nat.reduceBEq, h2, wrap_succ hlt (by omega)]
          exact ⟨_, by omega, i + 1, u, hlt, rfl, by omega, by with_reducible rfl⟩
    · have h1 : ¬ ((i : Int) < (t.Inodes.length : Int)) := by omega
      obtain rfl : i = t.Inodes.length := by omega
      rw [List.drop_length] at he
      simp only [useU, Nat.add_zero] at he
      rw [← he]
      simp only [go_sem, Nat.reduceLT, Nat.reduceAdd, Nat.reduceSub, Nat.reduceEqDiff, Nat.reduceLeDiff, Int.reduceEq, Int.reduceBEq, Int.reduceBNe, Int.reduceNeg, UInt8.reduceToNat, Nat.reduceBEq, h1]

end Go.Proofs.YticgilhndadkiaaGreatDoor.R
