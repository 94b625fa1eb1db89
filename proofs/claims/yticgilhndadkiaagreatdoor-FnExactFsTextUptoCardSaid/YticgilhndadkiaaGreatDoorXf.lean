/- The text of a tree: both programs write the same. -/
import Derived.Test.YticgilhndadkiaaGreatDoorXe
set_option maxRecDepth 100000
set_option linter.unusedVariables false
set_option linter.unusedSimpArgs false
namespace Go.Proofs.YticgilhndadkiaaGreatDoor.R
open Go

def linesD : List TEntry → ByteArray
  | [] => ⟨⟨[]⟩⟩
  | e :: l => entryT e ++ (⟨⟨[10]⟩⟩ ++ linesD l)
noncomputable def treeT (t : TTab) : ByteArray := linesD (dumpL t)
theorem linesD_drop {l : List TEntry} {j : Nat} {a : TEntry} (h : l[j]? = some a) : linesD (l.drop j) = entryT a ++ (⟨⟨[10]⟩⟩ ++ linesD (l.drop (j + 1))) := by
  rw [drop_cons h]; rfl
theorem attrsD_size : ∀ {l : List TAttr}, (∀ a ∈ l, a.ok) → (attrsD l).size ≤ l.length * 2097154
  | [], _ => by simp [attrsD, size_lit]
  | a :: l, h => by
    have ih := attrsD_size fun b hb => h b (List.mem_cons_of_mem a hb)
    have o := h a (by simp)
    have o1 := o.Name; have o2 := o.Val
    have hb : Bd = 1048576 := rfl
    unfold okS at o1 o2
    simp only [attrsD, attrT, ByteArray.size_append, size_lit, List.length_cons, List.length_nil]
    omega
theorem entryT_size {x : TEntry} (hx : x.ok) : (entryT x).size ≤ 4398046511104 := by
  have h1 := hx.Path; have h2 := hx.First; have h3 := hx.Data.2; have h4 := hx.Attrs.2
  have hb : Bd = 1048576 := rfl
  unfold okS at h1 h2
  have hd := dec_size x.Data.length
  have ha := attrsD_size hx.Attrs.1
  have hm : x.Attrs.length * 2097154 ≤ 1048576 * 2097154 := Nat.mul_le_mul_right _ (by omega)
  unfold entryT entryMid
  simp only [ByteArray.size_append]
  split
  · simp only [ByteArray.size_append, size_lit, List.length_cons, List.length_nil]; omega
  · split <;> simp only [ByteArray.size_append, size_lit, List.length_cons, List.length_nil] <;> omega
theorem dump_ok {t : TTab} (ht : t.ok) : (∀ e ∈ dumpL t, e.ok) ∧ (dumpL t).length ≤ 9000 := by
  refine ⟨fun e he => ?_, by unfold dumpL; rw [List.length_map]; exact pathsT_len t⟩
  unfold dumpL at he
  obtain ⟨p, hp, rfl⟩ := List.mem_map.1 he
  exact entry_ok ht hp

set_option maxHeartbeats 4000000 in
theorem treeTextImpl_ok (n : Nat) (hn : Big + 2000001 ≤ n) (t : TTab) (ht : t.ok) : pcall env n 8 [.c .agg (t.pv.map argC')] [] = some ⟨pvSV (.t (treeT t)), []⟩ := by
  obtain ⟨m, rfl⟩ := ex_pred hn
  have hB := big_bd
  have hbd : Bd = 1048576 := rfl
  obtain ⟨fl, hdu⟩ := dumpImpl_ok m (deep hn (by decide)) t ht
  simp only [go_sem] at hdu
  obtain ⟨hok, hlen⟩ := dump_ok ht
  unfold treeT
  generalize dumpL t = l at hdu hok hlen ⊢
  refine wq_eq (wq_pcall (fn := Tryz.f8) rfl rfl rfl (Nat.le_of_ble_eq_true rfl) ?_)
  unfold Tryz.f8
  cases fl <;> simp only [go_sem, Nat.reduceLT, Nat.reduceAdd, Nat.reduceSub, Nat.reduceEqDiff, Nat.reduceLeDiff, Int.reduceEq, Int.reduceBEq, Int.reduceBNe, Int.reduceNeg, UInt8.reduceToNat, Nat.reduceBEq, hdu, Nat.zero_mul, Nat.zero_le]
  all_goals
    refine wq_loop_at (fun r σ => ∃ (j : Nat) (s : ByteArray) (fl : Bool), j ≤ l.length ∧ r = l.length - j ∧ s ++ linesD (l.drop j) = linesD l ∧ s.size ≤ j * 4398046511105 ∧ σ = slots 20 [(1, .c .box [.sh true (.s 6 (t.Inodes.map TInode.pv)), .sh false (.i .i64 t.Next)]), (3, .c .one [.sh false (.t s)]), (7, .c .one [.ow fl 5 (l.map TEntry.pv)]), (8, .c .one [.sh false (.i .i64 (l.length : Nat))]), (9, .c .one [.sh false (.i .i64 (j : Nat))])]) l.length (by omega) ?_ ?_
    · simp only [go_sem, Nat.reduceLT, Nat.reduceAdd, Nat.reduceSub, Nat.reduceEqDiff, Nat.reduceLeDiff, Int.reduceEq, Int.reduceBEq, Int.reduceBNe, Int.reduceNeg, UInt8.reduceToNat, Nat.reduceBEq]
      exact ⟨0, ⟨⟨[]⟩⟩, _, Nat.zero_le _, rfl, by rw [List.drop_zero]; exact ByteArray.empty_append, Nat.zero_le _, rfl⟩
    · rintro r σ ⟨j, s, fl, hj, rfl, he, hs, rfl⟩
      by_cases hlt : j < l.length
      · have h1 : ((j : Int) < (l.length : Int)) := by omega
        have hx : l[j]? = some l[j] := List.getElem?_eq_getElem hlt
        have ho := hok _ (List.getElem_mem hlt)
        generalize l[j] = a at hx ho
        have hen := entryImpl_ok m (deep hn (by decide)) a ho
        simp only [go_sem] at hen
        have hsz := entryT_size ho
        have hm : j * 4398046511105 ≤ 9000 * 4398046511105 := Nat.mul_le_mul_right _ (by omega)
        have c1 : ((((entryT a).size + 1 : Nat) : Int) > IntKind.i64.max) = False := cat_ok (by omega)
        have c2 : (((s.size + ((entryT a).size + 1) : Nat) : Int) > IntKind.i64.max) = False := cat_ok (by omega)
        rw [linesD_drop hx] at he
        simp only [go_sem, Nat.reduceLT, Nat.reduceAdd, Nat.reduceSub, Nat.reduceEqDiff, Nat.reduceLeDiff, Int.reduceEq, Int.reduceBEq, Int.reduceBNe, Int.reduceNeg, UInt8.reduceToNat, Nat.reduceBEq, h1, hx, hen, ByteArray.size_append, size_lit, c1, c2, wrap_succ hlt (by omega)]
        refine ⟨_, by omega, j + 1, _, fl, hlt, rfl, ?_, ?_, rfl⟩
        · simp only [ByteArray.append_assoc] at he ⊢
          exact he
        · simp only [ByteArray.size_append, size_lit, List.length_cons, List.length_nil]; omega
      · have h1 : ¬ ((j : Int) < (l.length : Int)) := by omega
        obtain rfl : j = l.length := by omega
        have he' : s = linesD l := by
          rw [List.drop_length] at he
          rw [← he]; exact (cat_nil s).symm
        rw [← he']
        simp only [go_sem, Nat.reduceLT, Nat.reduceAdd, Nat.reduceSub, Nat.reduceEqDiff, Nat.reduceLeDiff, Int.reduceEq, Int.reduceBEq, Int.reduceBNe, Int.reduceNeg, UInt8.reduceToNat, Nat.reduceBEq, h1]

set_option maxHeartbeats 4000000 in
theorem treeTextSpec_ok (n : Nat) (hn : Big + 2000001 ≤ n) (t : TTab) (ht : t.ok) : pcall env n 6 [.c .agg (t.pv.map argC')] [] = some ⟨pvSV (.t (treeT t)), []⟩ := by
  obtain ⟨m, rfl⟩ := ex_pred hn
  have hB := big_bd
  have hbd : Bd = 1048576 := rfl
  obtain ⟨fl, hdu⟩ := dumpSpec_ok m (deep hn (by decide)) t ht
  simp only [go_sem] at hdu
  obtain ⟨hok, hlen⟩ := dump_ok ht
  unfold treeT
  generalize dumpL t = l at hdu hok hlen ⊢
  refine wq_eq (wq_pcall (fn := Tryz.f6) rfl rfl rfl (Nat.le_of_ble_eq_true rfl) ?_)
  unfold Tryz.f6
  cases fl <;> simp only [go_sem, Nat.reduceLT, Nat.reduceAdd, Nat.reduceSub, Nat.reduceEqDiff, Nat.reduceLeDiff, Int.reduceEq, Int.reduceBEq, Int.reduceBNe, Int.reduceNeg, UInt8.reduceToNat, Nat.reduceBEq, hdu, Nat.zero_mul, Nat.zero_le]
  all_goals
    refine wq_loop_at (fun r σ => ∃ (j : Nat) (s : ByteArray) (fl : Bool), j ≤ l.length ∧ r = l.length - j ∧ s ++ linesD (l.drop j) = linesD l ∧ s.size ≤ j * 4398046511105 ∧ σ = slots 23 [(1, .c .box [.sh true (.s 6 (t.Inodes.map TInode.pv)), .sh false (.i .i64 t.Next)]), (3, .c .one [.sh false (.t s)]), (4, .c .one [.ow fl 5 (l.map TEntry.pv)]), (5, .c .one [.sh false (.i .i64 (j : Nat))])]) l.length (by omega) ?_ ?_
    · simp only [go_sem, Nat.reduceLT, Nat.reduceAdd, Nat.reduceSub, Nat.reduceEqDiff, Nat.reduceLeDiff, Int.reduceEq, Int.reduceBEq, Int.reduceBNe, Int.reduceNeg, UInt8.reduceToNat, Nat.reduceBEq]
      exact ⟨0, ⟨⟨[]⟩⟩, _, Nat.zero_le _, rfl, by rw [List.drop_zero]; exact ByteArray.empty_append, Nat.zero_le _, rfl⟩
    · rintro r σ ⟨j, s, fl, hj, rfl, he, hs, rfl⟩
      by_cases hlt : j < l.length
      · have h1 : ((j : Int) < (l.length : Int)) := by omega
        have hx : l[j]? = some l[j] := List.getElem?_eq_getElem hlt
        have ho := hok _ (List.getElem_mem hlt)
        generalize l[j] = a at hx ho
        have hen := entrySpec_ok m (deep hn (by decide)) a ho
        simp only [go_sem] at hen
        have hsz := entryT_size ho
        have hm : j * 4398046511105 ≤ 9000 * 4398046511105 := Nat.mul_le_mul_right _ (by omega)
        have c1 : (((s.size + (entryT a).size : Nat) : Int) > IntKind.i64.max) = False := cat_ok (by omega)
        have c2 : (((s.size + (entryT a).size + 1 : Nat) : Int) > IntKind.i64.max) = False := cat_ok (by omega)
        rw [linesD_drop hx] at he
        simp only [go_sem, Nat.reduceLT, Nat.reduceAdd, Nat.reduceSub, Nat.reduceEqDiff, Nat.reduceLeDiff, Int.reduceEq, Int.reduceBEq, Int.reduceBNe, Int.reduceNeg, UInt8.reduceToNat, Nat.reduceBEq, h1, hx, hen, ByteArray.size_append, size_lit, c1, c2, wrap_succ hlt (by omega)]
        refine ⟨_, by omega, j + 1, _, fl, hlt, rfl, ?_, ?_, rfl⟩
        · simp only [ByteArray.append_assoc] at he ⊢
          exact he
        · simp only [ByteArray.size_append, size_lit, List.length_cons, List.length_nil]; omega
      · have h1 : ¬ ((j : Int) < (l.length : Int)) := by omega
        obtain rfl : j = l.length := by omega
        have he' : s = linesD l := by
          rw [List.drop_length] at he
          rw [← he]; exact (cat_nil s).symm
        rw [← he']
        simp only [go_sem, Nat.reduceLT, Nat.reduceAdd, Nat.reduceSub, Nat.reduceEqDiff, Nat.reduceLeDiff, Int.reduceEq, Int.reduceBEq, Int.reduceBNe, Int.reduceNeg, UInt8.reduceToNat, Nat.reduceBEq, h1]

end Go.Proofs.YticgilhndadkiaaGreatDoor.R
