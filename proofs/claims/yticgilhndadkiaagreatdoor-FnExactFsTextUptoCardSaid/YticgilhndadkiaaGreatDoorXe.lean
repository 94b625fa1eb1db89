/- The text of an entry: both programs write the same. -/
import Derived.Test.YticgilhndadkiaaGreatDoorXa
import Derived.Test.YticgilhndadkiaaGreatDoorUz
set_option maxRecDepth 100000
set_option linter.unusedVariables false
set_option linter.unusedSimpArgs false
namespace Go.Proofs.YticgilhndadkiaaGreatDoor.R
open Go

def attrT (a : TAttr) : ByteArray := ⟨⟨[32]⟩⟩ ++ (a.Name ++ (⟨⟨[58]⟩⟩ ++ a.Val))
def attrsD : List TAttr → ByteArray
  | [] => ⟨⟨[]⟩⟩
  | a :: l => attrT a ++ attrsD l
theorem attrsD_drop {l : List TAttr} {j : Nat} {a : TAttr} (h : l[j]? = some a) : attrsD (l.drop j) = attrT a ++ attrsD (l.drop (j + 1)) := by
  obtain ⟨hj, rfl⟩ := List.getElem?_eq_some_iff.1 h
  rw [List.drop_eq_getElem_cons hj]; rfl
theorem attrsD_end {l : List TAttr} : attrsD (l.drop l.length) = ⟨⟨[]⟩⟩ := by rw [List.drop_length]; rfl
theorem cat_nil (s : ByteArray) : s ++ ⟨⟨[]⟩⟩ = s := ByteArray.append_empty

/-- What is between the path and the attributes. -/
def entryMid (x : TEntry) : ByteArray := if x.Kind = 2 then ⟨⟨[47]⟩⟩ else ⟨⟨[32]⟩⟩ ++ (dec x.Data.length ++ (if (!(x.First.toList == x.Path.toList)) = true then ⟨⟨[32, 61, 32]⟩⟩ ++ x.First else ⟨⟨[]⟩⟩))
def entryT (x : TEntry) : ByteArray := x.Path ++ (entryMid x ++ attrsD x.Attrs)

theorem entrySpec_ok (n : Nat) (hn : Big + 2000000 ≤ n) (x : TEntry) (hx : x.ok) : pcall env n 17 [.c .agg (x.pv.map argC')] [] = some ⟨pvSV (.t (entryT x)), []⟩ := by
  obtain ⟨m, rfl⟩ := ex_pred hn
  have hb : Bd = 1048576 := rfl
  have hB := big_bd
  have h1 := hx.Path; have h2 := hx.First; have h3 := hx.Data.2; have h4 := hx.Attrs.2
  unfold okS at h1 h2
  have hd := dec_size x.Data.length
  have hdc := l28Num_ok x.Data.length (by omega) m (by omega)
  simp only [go_sem] at hdc
  refine wq_eq (wq_pcall (fn := Tryz.f17) rfl rfl rfl (Nat.le_of_ble_eq_true rfl) ?_)
  unfold Tryz.f17
  by_cases hk : x.Kind = 2
  · have hkb : (x.Kind == 2) = true := by simp [hk]
    simp only [go_sem, Nat.reduceLT, Nat.reduceAdd, Nat.reduceSub, Nat.reduceEqDiff, Nat.reduceLeDiff, Int.reduceEq, hdc, hkb]
    repeat (refine bq_neg (by simp only [ByteArray.size_append, size_lit, List.length_cons, List.length_nil, i64max]; omega) ?_; simp only [go_sem, Nat.reduceLT, Nat.reduceAdd, Nat.reduceSub, Nat.reduceEqDiff, Nat.reduceLeDiff, Int.reduceEq, hdc, hkb])
    refine wq_loop_at (fun k σ => ∃ (j : Nat) (s : ByteArray), j ≤ x.Attrs.length ∧ k = x.Attrs.length - j ∧ s ++ attrsD (x.Attrs.drop j) = entryT x ∧ s.size ≤ 5242880 + j * 2097154 ∧ σ = slots 54 [(1, .c .box [.sh false (.t x.Path), .sh false (.i .i64 x.Kind), .sh true (.s 1 (x.Data.map bpv)), .sh true (.s 2 (x.Attrs.map TAttr.pv)), .sh false (.t x.First)]), (3, .c .one [.sh false (.t s)]), (4, .c .one [.sh false (.i .i64 (j : Nat))])]) x.Attrs.length (by omega) ?_ ?_
    · simp only [go_sem, Nat.reduceLT, Nat.reduceAdd, Nat.reduceSub, Nat.reduceEqDiff, Nat.reduceLeDiff]
      refine ⟨0, _, Nat.zero_le _, rfl, ?_, ?_, rfl⟩
      · simp only [entryT, entryMid, ByteArray.append_assoc, List.drop_zero, go_sem, hk, cat_nil]
      · simp only [ByteArray.size_append, size_lit, List.length_cons, List.length_nil]; omega
    · rintro k σ ⟨j, s, hj, rfl, he, hs, rfl⟩
      by_cases hlt : j < x.Attrs.length
      · have h1' : ((j : Int) < (x.Attrs.length : Int)) := by omega
        have hx' : x.Attrs[j]? = some x.Attrs[j] := List.getElem?_eq_getElem hlt
        have ho := hx.Attrs.1 _ (List.getElem_mem hlt)
        generalize x.Attrs[j] = a at hx' ho
        have o1 := ho.Name; have o2 := ho.Val
        unfold okS at o1 o2
        have hm : j * 2097154 ≤ 1048576 * 2097154 := Nat.mul_le_mul_right _ (by omega)
        rw [attrsD_drop hx'] at he
        simp only [go_sem, Nat.reduceLT, Nat.reduceAdd, Nat.reduceSub, Nat.reduceEqDiff, Nat.reduceLeDiff, Int.reduceEq, h1', hx', wrap_succ hlt (by omega)]
        refine chk (by kernel_rfl) ?_
        repeat (refine bq_neg (by simp only [ByteArray.size_append, size_lit, List.length_cons, List.length_nil, i64max]; omega) ?_; simp only [go_sem, Nat.reduceLT, Nat.reduceAdd, Nat.reduceSub, Nat.reduceEqDiff, Nat.reduceLeDiff, Int.reduceEq, h1', hx', wrap_succ hlt (by omega)])
        refine ⟨_, by omega, j + 1, _, hlt, rfl, ?_, ?_, rfl⟩
        · simp only [attrT, ByteArray.append_assoc] at he ⊢
          exact he
        · simp only [ByteArray.size_append, size_lit, List.length_cons, List.length_nil]; omega
      · have h1' : ¬ ((j : Int) < (x.Attrs.length : Int)) := by omega
        obtain rfl : j = x.Attrs.length := by omega
        rw [attrsD_end, cat_nil] at he
        simp only [go_sem, Nat.reduceLT, Nat.reduceAdd, Nat.reduceSub, Nat.reduceEqDiff, Nat.reduceLeDiff, h1', he]
  · have hkb : (x.Kind == 2) = false := by simp [hk]
    by_cases hf : (!(x.First.toList == x.Path.toList)) = true
    · simp only [go_sem, Nat.reduceLT, Nat.reduceAdd, Nat.reduceSub, Nat.reduceEqDiff, Nat.reduceLeDiff, Int.reduceEq, hdc, hkb, hf]
      repeat (refine bq_neg (by simp only [ByteArray.size_append, size_lit, List.length_cons, List.length_nil, i64max]; omega) ?_; simp only [go_sem, Nat.reduceLT, Nat.reduceAdd, Nat.reduceSub, Nat.reduceEqDiff, Nat.reduceLeDiff, Int.reduceEq, hdc, hkb, hf])
      refine wq_loop_at (fun k σ => ∃ (j : Nat) (s : ByteArray), j ≤ x.Attrs.length ∧ k = x.Attrs.length - j ∧ s ++ attrsD (x.Attrs.drop j) = entryT x ∧ s.size ≤ 5242880 + j * 2097154 ∧ σ = slots 54 [(1, .c .box [.sh false (.t x.Path), .sh false (.i .i64 x.Kind), .sh true (.s 1 (x.Data.map bpv)), .sh true (.s 2 (x.Attrs.map TAttr.pv)), .sh false (.t x.First)]), (3, .c .one [.sh false (.t s)]), (4, .c .one [.sh false (.i .i64 (j : Nat))])]) x.Attrs.length (by omega) ?_ ?_
      · simp only [go_sem, Nat.reduceLT, Nat.reduceAdd, Nat.reduceSub, Nat.reduceEqDiff, Nat.reduceLeDiff]
        refine ⟨0, _, Nat.zero_le _, rfl, ?_, ?_, rfl⟩
        · simp only [entryT, entryMid, ByteArray.append_assoc, List.drop_zero, go_sem, hk, hf, cat_nil]
        · simp only [ByteArray.size_append, size_lit, List.length_cons, List.length_nil]; omega
      · rintro k σ ⟨j, s, hj, rfl, he, hs, rfl⟩
        by_cases hlt : j < x.Attrs.length
        · have h1' : ((j : Int) < (x.Attrs.length : Int)) := by omega
          have hx' : x.Attrs[j]? = some x.Attrs[j] := List.getElem?_eq_getElem hlt
          have ho := hx.Attrs.1 _ (List.getElem_mem hlt)
          generalize x.Attrs[j] = a at hx' ho
          have o1 := ho.Name; have o2 := ho.Val
          unfold okS at o1 o2
          have hm : j * 2097154 ≤ 1048576 * 2097154 := Nat.mul_le_mul_right _ (by omega)
          rw [attrsD_drop hx'] at he
          simp only [go_sem, Nat.reduceLT, Nat.reduceAdd, Nat.reduceSub, Nat.reduceEqDiff, Nat.reduceLeDiff, Int.reduceEq, h1', hx', wrap_succ hlt (by omega)]
          refine chk (by kernel_rfl) ?_
          repeat (refine bq_neg (by simp only [ByteArray.size_append, size_lit, List.length_cons, List.length_nil, i64max]; omega) ?_; simp only [go_sem, Nat.reduceLT, Nat.reduceAdd, Nat.reduceSub, Nat.reduceEqDiff, Nat.reduceLeDiff, Int.reduceEq, h1', hx', wrap_succ hlt (by omega)])
          refine ⟨_, by omega, j + 1, _, hlt, rfl, ?_, ?_, rfl⟩
          · simp only [attrT, ByteArray.append_assoc] at he ⊢
            exact he
          · simp only [ByteArray.size_append, size_lit, List.length_cons, List.length_nil]; omega
        · have h1' : ¬ ((j : Int) < (x.Attrs.length : Int)) := by omega
          obtain rfl : j = x.Attrs.length := by omega
          rw [attrsD_end, cat_nil] at he
          simp only [go_sem, Nat.reduceLT, Nat.reduceAdd, Nat.reduceSub, Nat.reduceEqDiff, Nat.reduceLeDiff, h1', he]
    · simp only [go_sem, Nat.reduceLT, Nat.reduceAdd, Nat.reduceSub, Nat.reduceEqDiff, Nat.reduceLeDiff, Int.reduceEq, hdc, hkb, hf]
      repeat (refine bq_neg (by simp only [ByteArray.size_append, size_lit, List.length_cons, List.length_nil, i64max]; omega) ?_; simp only [go_sem, Nat.reduceLT, Nat.reduceAdd, Nat.reduceSub, Nat.reduceEqDiff, Nat.reduceLeDiff, Int.reduceEq, hdc, hkb, hf])
      refine wq_loop_at (fun k σ => ∃ (j : Nat) (s : ByteArray), j ≤ x.Attrs.length ∧ k = x.Attrs.length - j ∧ s ++ attrsD (x.Attrs.drop j) = entryT x ∧ s.size ≤ 5242880 + j * 2097154 ∧ σ = slots 54 [(1, .c .box [.sh false (.t x.Path), .sh false (.i .i64 x.Kind), .sh true (.s 1 (x.Data.map bpv)), .sh true (.s 2 (x.Attrs.map TAttr.pv)), .sh false (.t x.First)]), (3, .c .one [.sh false (.t s)]), (4, .c .one [.sh false (.i .i64 (j : Nat))])]) x.Attrs.length (by omega) ?_ ?_
      · simp only [go_sem, Nat.reduceLT, Nat.reduceAdd, Nat.reduceSub, Nat.reduceEqDiff, Nat.reduceLeDiff]
        refine ⟨0, _, Nat.zero_le _, rfl, ?_, ?_, rfl⟩
        · simp only [entryT, entryMid, ByteArray.append_assoc, List.drop_zero, go_sem, hk, hf, cat_nil]
        · simp only [ByteArray.size_append, size_lit, List.length_cons, List.length_nil]; omega
      · rintro k σ ⟨j, s, hj, rfl, he, hs, rfl⟩
        by_cases hlt : j < x.Attrs.length
        · have h1' : ((j : Int) < (x.Attrs.length : Int)) := by omega
          have hx' : x.Attrs[j]? = some x.Attrs[j] := List.getElem?_eq_getElem hlt
          have ho := hx.Attrs.1 _ (List.getElem_mem hlt)
          generalize x.Attrs[j] = a at hx' ho
          have o1 := ho.Name; have o2 := ho.Val
          unfold okS at o1 o2
          have hm : j * 2097154 ≤ 1048576 * 2097154 := Nat.mul_le_mul_right _ (by omega)
          rw [attrsD_drop hx'] at he
          simp only [go_sem, Nat.reduceLT, Nat.reduceAdd, Nat.reduceSub, Nat.reduceEqDiff, Nat.reduceLeDiff, Int.reduceEq, h1', hx', wrap_succ hlt (by omega)]
          refine chk (by kernel_rfl) ?_
          repeat (refine bq_neg (by simp only [ByteArray.size_append, size_lit, List.length_cons, List.length_nil, i64max]; omega) ?_; simp only [go_sem, Nat.reduceLT, Nat.reduceAdd, Nat.reduceSub, Nat.reduceEqDiff, Nat.reduceLeDiff, Int.reduceEq, h1', hx', wrap_succ hlt (by omega)])
          refine ⟨_, by omega, j + 1, _, hlt, rfl, ?_, ?_, rfl⟩
          · simp only [attrT, ByteArray.append_assoc] at he ⊢
            exact he
          · simp only [ByteArray.size_append, size_lit, List.length_cons, List.length_nil]; omega
        · have h1' : ¬ ((j : Int) < (x.Attrs.length : Int)) := by omega
          obtain rfl : j = x.Attrs.length := by omega
          rw [attrsD_end, cat_nil] at he
          simp only [go_sem, Nat.reduceLT, Nat.reduceAdd, Nat.reduceSub, Nat.reduceEqDiff, Nat.reduceLeDiff, h1', he]

theorem entryImpl_ok (n : Nat) (hn : Big + 2000000 ≤ n) (x : TEntry) (hx : x.ok) : pcall env n 20 [.c .agg (x.pv.map argC')] [] = some ⟨pvSV (.t (entryT x)), []⟩ := by
  obtain ⟨m, rfl⟩ := ex_pred hn
  have hb : Bd = 1048576 := rfl
  have hB := big_bd
  have h1 := hx.Path; have h2 := hx.First; have h3 := hx.Data.2; have h4 := hx.Attrs.2
  unfold okS at h1 h2
  have hd := dec_size x.Data.length
  have hdc := number_ok x.Data.length (by omega) m (by omega)
  simp only [go_sem] at hdc
  refine wq_eq (wq_pcall (fn := Tryz.f20) rfl rfl rfl (Nat.le_of_ble_eq_true rfl) ?_)
  unfold Tryz.f20
  by_cases hk : x.Kind = 2
  · have hkb : (x.Kind == 2) = true := by simp [hk]
    simp only [go_sem, Nat.reduceLT, Nat.reduceAdd, Nat.reduceSub, Nat.reduceEqDiff, Nat.reduceLeDiff, Int.reduceEq, hdc, hkb]
    repeat (refine bq_neg (by simp only [ByteArray.size_append, size_lit, List.length_cons, List.length_nil, i64max]; omega) ?_; simp only [go_sem, Nat.reduceLT, Nat.reduceAdd, Nat.reduceSub, Nat.reduceEqDiff, Nat.reduceLeDiff, Int.reduceEq, hdc, hkb])
    refine wq_loop_at (fun k σ => ∃ (j : Nat) (s : ByteArray), j ≤ x.Attrs.length ∧ k = x.Attrs.length - j ∧ s ++ attrsD (x.Attrs.drop j) = entryT x ∧ s.size ≤ 5242880 + j * 2097154 ∧ σ = slots 48 [(3, .c .one [.sh false (.t s)]), (31, .c .one [.sh true (.s 2 (x.Attrs.map TAttr.pv))]), (32, .c .one [.sh false (.i .i64 (x.Attrs.length : Nat))]), (33, .c .one [.sh false (.i .i64 (j : Nat))]), (1, .c .box [.sh false (.t x.Path), .sh false (.i .i64 x.Kind), .sh true (.s 1 (x.Data.map bpv)), .sh true (.s 2 (x.Attrs.map TAttr.pv)), .sh false (.t x.First)])]) x.Attrs.length (by omega) ?_ ?_
    · simp only [go_sem, Nat.reduceLT, Nat.reduceAdd, Nat.reduceSub, Nat.reduceEqDiff, Nat.reduceLeDiff]
      refine ⟨0, _, Nat.zero_le _, rfl, ?_, ?_, rfl⟩
      · simp only [entryT, entryMid, ByteArray.append_assoc, List.drop_zero, go_sem, hk, cat_nil]
      · simp only [ByteArray.size_append, size_lit, List.length_cons, List.length_nil]; omega
    · rintro k σ ⟨j, s, hj, rfl, he, hs, rfl⟩
      by_cases hlt : j < x.Attrs.length
      · have h1' : ((j : Int) < (x.Attrs.length : Int)) := by omega
        have hx' : x.Attrs[j]? = some x.Attrs[j] := List.getElem?_eq_getElem hlt
        have ho := hx.Attrs.1 _ (List.getElem_mem hlt)
        generalize x.Attrs[j] = a at hx' ho
        have o1 := ho.Name; have o2 := ho.Val
        unfold okS at o1 o2
        have hm : j * 2097154 ≤ 1048576 * 2097154 := Nat.mul_le_mul_right _ (by omega)
        rw [attrsD_drop hx'] at he
        simp only [go_sem, Nat.reduceLT, Nat.reduceAdd, Nat.reduceSub, Nat.reduceEqDiff, Nat.reduceLeDiff, Int.reduceEq, h1', hx', wrap_succ hlt (by omega)]
        repeat (refine bq_neg (by simp only [ByteArray.size_append, size_lit, List.length_cons, List.length_nil, i64max]; omega) ?_; simp only [go_sem, Nat.reduceLT, Nat.reduceAdd, Nat.reduceSub, Nat.reduceEqDiff, Nat.reduceLeDiff, Int.reduceEq, h1', hx', wrap_succ hlt (by omega)])
        refine ⟨_, by omega, j + 1, _, hlt, rfl, ?_, ?_, rfl⟩
        · simp only [attrT, ByteArray.append_assoc] at he ⊢
          exact he
        · simp only [ByteArray.size_append, size_lit, List.length_cons, List.length_nil]; omega
      · have h1' : ¬ ((j : Int) < (x.Attrs.length : Int)) := by omega
        obtain rfl : j = x.Attrs.length := by omega
        rw [attrsD_end, cat_nil] at he
        simp only [go_sem, Nat.reduceLT, Nat.reduceAdd, Nat.reduceSub, Nat.reduceEqDiff, Nat.reduceLeDiff, h1', he]
  · have hkb : (x.Kind == 2) = false := by simp [hk]
    by_cases hf : (!(x.First.toList == x.Path.toList)) = true
    · simp only [go_sem, Nat.reduceLT, Nat.reduceAdd, Nat.reduceSub, Nat.reduceEqDiff, Nat.reduceLeDiff, Int.reduceEq, hdc, hkb, hf]
      repeat (refine bq_neg (by simp only [ByteArray.size_append, size_lit, List.length_cons, List.length_nil, i64max]; omega) ?_; simp only [go_sem, Nat.reduceLT, Nat.reduceAdd, Nat.reduceSub, Nat.reduceEqDiff, Nat.reduceLeDiff, Int.reduceEq, hdc, hkb, hf])
      refine wq_loop_at (fun k σ => ∃ (j : Nat) (s : ByteArray), j ≤ x.Attrs.length ∧ k = x.Attrs.length - j ∧ s ++ attrsD (x.Attrs.drop j) = entryT x ∧ s.size ≤ 5242880 + j * 2097154 ∧ σ = slots 48 [(3, .c .one [.sh false (.t s)]), (31, .c .one [.sh true (.s 2 (x.Attrs.map TAttr.pv))]), (32, .c .one [.sh false (.i .i64 (x.Attrs.length : Nat))]), (33, .c .one [.sh false (.i .i64 (j : Nat))]), (1, .c .box [.sh false (.t x.Path), .sh false (.i .i64 x.Kind), .sh true (.s 1 (x.Data.map bpv)), .sh true (.s 2 (x.Attrs.map TAttr.pv)), .sh false (.t x.First)])]) x.Attrs.length (by omega) ?_ ?_
      · simp only [go_sem, Nat.reduceLT, Nat.reduceAdd, Nat.reduceSub, Nat.reduceEqDiff, Nat.reduceLeDiff]
        refine ⟨0, _, Nat.zero_le _, rfl, ?_, ?_, rfl⟩
        · simp only [entryT, entryMid, ByteArray.append_assoc, List.drop_zero, go_sem, hk, hf, cat_nil]
        · simp only [ByteArray.size_append, size_lit, List.length_cons, List.length_nil]; omega
      · rintro k σ ⟨j, s, hj, rfl, he, hs, rfl⟩
        by_cases hlt : j < x.Attrs.length
        · have h1' : ((j : Int) < (x.Attrs.length : Int)) := by omega
          have hx' : x.Attrs[j]? = some x.Attrs[j] := List.getElem?_eq_getElem hlt
          have ho := hx.Attrs.1 _ (List.getElem_mem hlt)
          generalize x.Attrs[j] = a at hx' ho
          have o1 := ho.Name; have o2 := ho.Val
          unfold okS at o1 o2
          have hm : j * 2097154 ≤ 1048576 * 2097154 := Nat.mul_le_mul_right _ (by omega)
          rw [attrsD_drop hx'] at he
          simp only [go_sem, Nat.reduceLT, Nat.reduceAdd, Nat.reduceSub, Nat.reduceEqDiff, Nat.reduceLeDiff, Int.reduceEq, h1', hx', wrap_succ hlt (by omega)]
          repeat (refine bq_neg (by simp only [ByteArray.size_append, size_lit, List.length_cons, List.length_nil, i64max]; omega) ?_; simp only [go_sem, Nat.reduceLT, Nat.reduceAdd, Nat.reduceSub, Nat.reduceEqDiff, Nat.reduceLeDiff, Int.reduceEq, h1', hx', wrap_succ hlt (by omega)])
          refine ⟨_, by omega, j + 1, _, hlt, rfl, ?_, ?_, rfl⟩
          · simp only [attrT, ByteArray.append_assoc] at he ⊢
            exact he
          · simp only [ByteArray.size_append, size_lit, List.length_cons, List.length_nil]; omega
        · have h1' : ¬ ((j : Int) < (x.Attrs.length : Int)) := by omega
          obtain rfl : j = x.Attrs.length := by omega
          rw [attrsD_end, cat_nil] at he
          simp only [go_sem, Nat.reduceLT, Nat.reduceAdd, Nat.reduceSub, Nat.reduceEqDiff, Nat.reduceLeDiff, h1', he]
    · simp only [go_sem, Nat.reduceLT, Nat.reduceAdd, Nat.reduceSub, Nat.reduceEqDiff, Nat.reduceLeDiff, Int.reduceEq, hdc, hkb, hf]
      repeat (refine bq_neg (by simp only [ByteArray.size_append, size_lit, List.length_cons, List.length_nil, i64max]; omega) ?_; simp only [go_sem, Nat.reduceLT, Nat.reduceAdd, Nat.reduceSub, Nat.reduceEqDiff, Nat.reduceLeDiff, Int.reduceEq, hdc, hkb, hf])
      refine wq_loop_at (fun k σ => ∃ (j : Nat) (s : ByteArray), j ≤ x.Attrs.length ∧ k = x.Attrs.length - j ∧ s ++ attrsD (x.Attrs.drop j) = entryT x ∧ s.size ≤ 5242880 + j * 2097154 ∧ σ = slots 48 [(3, .c .one [.sh false (.t s)]), (31, .c .one [.sh true (.s 2 (x.Attrs.map TAttr.pv))]), (32, .c .one [.sh false (.i .i64 (x.Attrs.length : Nat))]), (33, .c .one [.sh false (.i .i64 (j : Nat))]), (1, .c .box [.sh false (.t x.Path), .sh false (.i .i64 x.Kind), .sh true (.s 1 (x.Data.map bpv)), .sh true (.s 2 (x.Attrs.map TAttr.pv)), .sh false (.t x.First)])]) x.Attrs.length (by omega) ?_ ?_
      · simp only [go_sem, Nat.reduceLT, Nat.reduceAdd, Nat.reduceSub, Nat.reduceEqDiff, Nat.reduceLeDiff]
        refine ⟨0, _, Nat.zero_le _, rfl, ?_, ?_, rfl⟩
        · simp only [entryT, entryMid, ByteArray.append_assoc, List.drop_zero, go_sem, hk, hf, cat_nil]
        · simp only [ByteArray.size_append, size_lit, List.length_cons, List.length_nil]; omega
      · rintro k σ ⟨j, s, hj, rfl, he, hs, rfl⟩
        by_cases hlt : j < x.Attrs.length
        · have h1' : ((j : Int) < (x.Attrs.length : Int)) := by omega
          have hx' : x.Attrs[j]? = some x.Attrs[j] := List.getElem?_eq_getElem hlt
          have ho := hx.Attrs.1 _ (List.getElem_mem hlt)
          generalize x.Attrs[j] = a at hx' ho
          have o1 := ho.Name; have o2 := ho.Val
          unfold okS at o1 o2
          have hm : j * 2097154 ≤ 1048576 * 2097154 := Nat.mul_le_mul_right _ (by omega)
          rw [attrsD_drop hx'] at he
          simp only [go_sem, Nat.reduceLT, Nat.reduceAdd, Nat.reduceSub, Nat.reduceEqDiff, Nat.reduceLeDiff, Int.reduceEq, h1', hx', wrap_succ hlt (by omega)]
          repeat (refine bq_neg (by simp only [ByteArray.size_append, size_lit, List.length_cons, List.length_nil, i64max]; omega) ?_; simp only [go_sem, Nat.reduceLT, Nat.reduceAdd, Nat.reduceSub, Nat.reduceEqDiff, Nat.reduceLeDiff, Int.reduceEq, h1', hx', wrap_succ hlt (by omega)])
          refine ⟨_, by omega, j + 1, _, hlt, rfl, ?_, ?_, rfl⟩
          · simp only [attrT, ByteArray.append_assoc] at he ⊢
            exact he
          · simp only [ByteArray.size_append, size_lit, List.length_cons, List.length_nil]; omega
        · have h1' : ¬ ((j : Int) < (x.Attrs.length : Int)) := by omega
          obtain rfl : j = x.Attrs.length := by omega
          rw [attrsD_end, cat_nil] at he
          simp only [go_sem, Nat.reduceLT, Nat.reduceAdd, Nat.reduceSub, Nat.reduceEqDiff, Nat.reduceLeDiff, h1', he]
end Go.Proofs.YticgilhndadkiaaGreatDoor.R
