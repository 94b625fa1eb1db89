/- The text of a file system: both programs write the same. -/
import Derived.Test.YticgilhndadkiaaGreatDoorXh
set_option maxRecDepth 100000
set_option linter.unusedVariables false
set_option linter.unusedSimpArgs false
namespace Go.Proofs.YticgilhndadkiaaGreatDoor.R
open Go

def modeT : Bool → ByteArray
  | true => ⟨⟨[32, 114, 111, 32]⟩⟩
  | false => ⟨⟨[32, 114, 119, 32]⟩⟩
noncomputable def volT (v : TVol) : ByteArray := whole v.Id ++ (⟨⟨[32]⟩⟩ ++ (v.Name ++ (modeT v.Ro ++ (dec (useU v.T.Inodes) ++ (⟨⟨[47]⟩⟩ ++ (whole v.Limit ++ (⟨⟨[10]⟩⟩ ++ treeT v.T)))))))
noncomputable def fsL : List TVol → ByteArray
  | [] => ⟨⟨[]⟩⟩
  | v :: l => volT v ++ fsL l
theorem fsL_drop {l : List TVol} {j : Nat} {v : TVol} (h : l[j]? = some v) : fsL (l.drop j) = volT v ++ fsL (l.drop (j + 1)) := by rw [drop_cons h]; rfl
theorem mode_size (b : Bool) : (modeT b).size = 4 := by cases b <;> rfl

theorem entry4_size {x : TEntry} (hx : x.ok) (h4 : x.Attrs.length ≤ 4) : (entryT x).size ≤ 12000000 := by
  have h1 := hx.Path; have h2 := hx.First; have h3 := hx.Data.2
  have hbd : Bd = 1048576 := rfl
  unfold okS at h1 h2
  have hd := dec_size x.Data.length
  have ha := attrsD_size hx.Attrs.1
  unfold entryT entryMid
  simp only [ByteArray.size_append]
  split
  · simp only [ByteArray.size_append, size_lit, List.length_cons, List.length_nil]; omega
  · split <;> simp only [ByteArray.size_append, size_lit, List.length_cons, List.length_nil] <;> omega
theorem dump_attrs {t : TTab} {e : TEntry} (he : e ∈ dumpL t) : e.Attrs.length ≤ 4 := by
  unfold dumpL at he
  obtain ⟨p, hp, rfl⟩ := List.mem_map.1 he
  show (stI t.Inodes p).Attrs.length ≤ 4
  rcases st_mem (l := t.Inodes) p with h | h
  · rw [h]; exact Nat.zero_le _
  · have h1 := ((tree_parts (tree_ne hp)).2 _ h).1
    unfold inodeB at h1
    simp only [Bool.and_eq_true] at h1
    have h2 := h1.1.2
    unfold attrsB at h2
    simp only [Bool.and_eq_true, decide_eq_true_eq] at h2
    omega
theorem linesD_size : ∀ {l : List TEntry}, (∀ e ∈ l, (entryT e).size ≤ 12000000) → (linesD l).size ≤ l.length * 12000001
  | [], _ => Nat.zero_le _
  | a :: l, h => by
    have ih := linesD_size fun b hb => h b (List.mem_cons_of_mem a hb)
    have o := h a (by simp)
    simp only [linesD, ByteArray.size_append, size_lit, List.length_cons, List.length_nil]
    omega
theorem treeT_size {t : TTab} (ht : t.ok) : (treeT t).size ≤ 108000009000 := by
  obtain ⟨hok, hlen⟩ := dump_ok ht
  have h := linesD_size (l := dumpL t) fun e he => entry4_size (hok e he) (dump_attrs he)
  unfold treeT
  omega
theorem use_digits {t : TTab} (ht : t.ok) : useU t.Inodes < 10 ^ (18 + 1) := by
  have := use_lim ht
  have e : (10 : Nat) ^ (18 + 1) = 10000000000000000000 := by decide
  omega
theorem volT_size {v : TVol} (hv : v.ok) : (volT v).size ≤ 108002000000 := by
  have h1 := whole_size hv.Id; have h2 := whole_size hv.Limit; have h3 := hv.Name
  have h4 := dec_digits 18 _ (use_digits hv.T)
  have h5 := treeT_size hv.T
  have hbd : Bd = 1048576 := rfl
  unfold okS at h3
  unfold volT
  simp only [ByteArray.size_append, size_lit, mode_size, List.length_cons, List.length_nil]
  omega

set_option maxHeartbeats 8000000 in
theorem fsTextSpec_ok (n : Nat) (hn : Big + 2000003 ≤ n) (x : TFs) (hx : x.ok) : pcall env n 11 [.c .agg (x.pv.map argC')] [] = some ⟨pvSV (.t (fsL x.Vols)), []⟩ := by
  obtain ⟨m, rfl⟩ := ex_pred hn
  have hB := big_bd
  have hbd : Bd = 1048576 := rfl
  obtain ⟨hok, hlen⟩ := hx.Vols
  refine wq_eq (wq_pcall (fn := Tryz.f11) rfl rfl rfl (Nat.le_of_ble_eq_true rfl) ?_)
  unfold Tryz.f11
  simp only [go_sem, Nat.reduceLT, Nat.reduceAdd, Nat.reduceSub, Nat.reduceEqDiff, Nat.reduceLeDiff, Int.reduceEq, Int.reduceBEq, Int.reduceBNe, Int.reduceNeg, UInt8.reduceToNat, Nat.reduceBEq]
  refine wq_loop_at (fun r σ => ∃ (j : Nat) (s : ByteArray), j ≤ x.Vols.length ∧ r = x.Vols.length - j ∧ s ++ fsL (x.Vols.drop j) = fsL x.Vols ∧ s.size ≤ j * 108002000000 ∧ σ = slots 48 [(1, .c .box [.sh true (.s 6 (x.Vols.map TVol.pv)), .sh false (.i .i64 x.Next)]), (3, .c .one [.sh false (.t s)]), (4, .c .one [.sh false (.i .i64 (j : Nat))])]) x.Vols.length (by omega) ?_ ?_
  · simp only [go_sem, Nat.reduceLT, Nat.reduceAdd, Nat.reduceSub, Nat.reduceEqDiff, Nat.reduceLeDiff, Int.reduceEq, Int.reduceBEq, Int.reduceBNe, Int.reduceNeg, UInt8.reduceToNat, Nat.reduceBEq]
    exact ⟨0, ⟨⟨[]⟩⟩, Nat.zero_le _, rfl, by rw [List.drop_zero]; exact ByteArray.empty_append, Nat.zero_le _, rfl⟩
  · rintro r σ ⟨j, s, hj, rfl, he, hs, rfl⟩
    by_cases hlt : j < x.Vols.length
    · have h1 : ((j : Int) < (x.Vols.length : Int)) := by omega
      have hv : x.Vols[j]? = some x.Vols[j] := List.getElem?_eq_getElem hlt
      have ho := hok _ (List.getElem_mem hlt)
      generalize x.Vols[j] = v at hv ho
      have c1 := wholeSpec_ok m (deep hn (by decide)) v.Id ho.Id
      have c2 := usageSpec_ok m (deep hn (by decide)) v.T ho.T
      have c3 := l28NumD 18 _ (use_digits ho.T) (Nat.le_trans (use_lim ho.T) (by decide)) m (deep hn (by decide))
      have c4 := wholeSpec_ok m (deep hn (by decide)) v.Limit ho.Limit
      have c5 := treeTextSpec_ok m (deep hn (by decide)) v.T ho.T
      simp only [go_sem] at c1 c2 c3 c4 c5
      have z1 := whole_size ho.Id; have z2 := whole_size ho.Limit; have z3 := ho.Name
      have z4 := dec_digits 18 _ (use_digits ho.T)
      have z5 := treeT_size ho.T
      have z6 := volT_size ho
      unfold okS at z3
      have hm : j * 108002000000 ≤ 1048576 * 108002000000 := Nat.mul_le_mul_right _ (by omega)
      rw [fsL_drop hv] at he
      unfold volT at he z6
      simp only [ByteArray.append_assoc, ByteArray.size_append] at he z6
      generalize treeT v.T = W5 at c5 z5 z6 he
      generalize whole v.Id = W1 at c1 z1 z6 he
      generalize whole v.Limit = W4 at c4 z2 z6 he
      generalize useU v.T.Inodes = u at c2 c3 z4 z6 he
      generalize dec u = W3 at c3 z4 z6 he
      cases hr : v.Ro <;> rw [hr] at he z6 <;> simp only [modeT] at he z6
      all_goals
        have e0 : (((s.size + W1.size : Nat) : Int) > IntKind.i64.max) = False := cat_ok (by omega)
        have e1 : (((s.size + W1.size + 1 : Nat) : Int) > IntKind.i64.max) = False := cat_ok (by omega)
        have e2 : (((s.size + W1.size + 1 + v.Name.size : Nat) : Int) > IntKind.i64.max) = False := cat_ok (by omega)
        have e3 : (((s.size + W1.size + 1 + v.Name.size + 4 : Nat) : Int) > IntKind.i64.max) = False := cat_ok (by omega)
        have e4 : (((s.size + W1.size + 1 + v.Name.size + 4 + W3.size : Nat) : Int) > IntKind.i64.max) = False := cat_ok (by omega)
        have e5 : (((s.size + W1.size + 1 + v.Name.size + 4 + W3.size + 1 : Nat) : Int) > IntKind.i64.max) = False := cat_ok (by omega)
        have e6 : (((s.size + W1.size + 1 + v.Name.size + 4 + W3.size + 1 + W4.size : Nat) : Int) > IntKind.i64.max) = False := cat_ok (by omega)
        have e7 : (((s.size + W1.size + 1 + v.Name.size + 4 + W3.size + 1 + W4.size + 1 : Nat) : Int) > IntKind.i64.max) = False := cat_ok (by omega)
        have e8 : (((s.size + W1.size + 1 + v.Name.size + 4 + W3.size + 1 + W4.size + 1 + W5.size : Nat) : Int) > IntKind.i64.max) = False := cat_ok (by omega)
        simp only [go_sem, Nat.reduceLT, Nat.reduceAdd, Nat.reduceSub, Nat.reduceEqDiff, Nat.reduceLeDiff, Int.reduceEq, Int.reduceBEq, Int.reduceBNe, Int.reduceNeg, UInt8.reduceToNat, Nat.reduceBEq, ByteArray.size_append, size_lit, e0, e1, e2, e3, e4, e5, e6, e7, e8, h1, hv, hr, c1, c2, c3, c4, c5, wrap_succ hlt (by omega)]
        refine chk (by kernel_rfl) ⟨_, by omega, j + 1, _, hlt, rfl, ?_, ?_, rfl⟩
        · simp only [ByteArray.append_assoc] at he ⊢
          exact he
        · simp only [ByteArray.size_append, size_lit, List.length_cons, List.length_nil] at z6 ⊢; omega
    · have h1 : ¬ ((j : Int) < (x.Vols.length : Int)) := by omega
      obtain rfl : j = x.Vols.length := by omega
      have he' : s = fsL x.Vols := by
        rw [List.drop_length] at he
        rw [← he]; exact (cat_nil s).symm
      rw [← he']
      simp only [go_sem, Nat.reduceLT, Nat.reduceAdd, Nat.reduceSub, Nat.reduceEqDiff, Nat.reduceLeDiff, Int.reduceEq, Int.reduceBEq, Int.reduceBNe, Int.reduceNeg, UInt8.reduceToNat, Nat.reduceBEq, h1]

set_option maxHeartbeats 8000000 in
theorem fsTextImpl_ok (n : Nat) (hn : Big + 2000003 ≤ n) (x : TFs) (hx : x.ok) : pcall env n 13 [.c .agg (x.pv.map argC')] [] = some ⟨pvSV (.t (fsL x.Vols)), []⟩ := by
  obtain ⟨m, rfl⟩ := ex_pred hn
  have hB := big_bd
  have hbd : Bd = 1048576 := rfl
  obtain ⟨hok, hlen⟩ := hx.Vols
  refine wq_eq (wq_pcall (fn := Tryz.f13) rfl rfl rfl (Nat.le_of_ble_eq_true rfl) ?_)
  unfold Tryz.f13
  simp only [go_sem, Nat.reduceLT, Nat.reduceAdd, Nat.reduceSub, Nat.reduceEqDiff, Nat.reduceLeDiff, Int.reduceEq, Int.reduceBEq, Int.reduceBNe, Int.reduceNeg, UInt8.reduceToNat, Nat.reduceBEq]
  refine wq_loop_at (fun r σ => ∃ (j : Nat) (s : ByteArray), j ≤ x.Vols.length ∧ r = x.Vols.length - j ∧ s ++ fsL (x.Vols.drop j) = fsL x.Vols ∧ s.size ≤ j * 108002000000 ∧ σ = slots 44 [(1, .c .box [.sh true (.s 6 (x.Vols.map TVol.pv)), .sh false (.i .i64 x.Next)]), (3, .c .one [.sh false (.t s)]), (8, .c .one [.sh true (.s 6 (x.Vols.map TVol.pv))]), (9, .c .one [.sh false (.i .i64 (x.Vols.length : Nat))]), (10, .c .one [.sh false (.i .i64 (j : Nat))])]) x.Vols.length (by omega) ?_ ?_
  · simp only [go_sem, Nat.reduceLT, Nat.reduceAdd, Nat.reduceSub, Nat.reduceEqDiff, Nat.reduceLeDiff, Int.reduceEq, Int.reduceBEq, Int.reduceBNe, Int.reduceNeg, UInt8.reduceToNat, Nat.reduceBEq]
    exact ⟨0, ⟨⟨[]⟩⟩, Nat.zero_le _, rfl, by rw [List.drop_zero]; exact ByteArray.empty_append, Nat.zero_le _, rfl⟩
  · rintro r σ ⟨j, s, hj, rfl, he, hs, rfl⟩
    by_cases hlt : j < x.Vols.length
    · have h1 : ((j : Int) < (x.Vols.length : Int)) := by omega
      have hv : x.Vols[j]? = some x.Vols[j] := List.getElem?_eq_getElem hlt
      have ho := hok _ (List.getElem_mem hlt)
      generalize x.Vols[j] = v at hv ho
      have c1 := numberImpl_ok m (deep hn (by decide)) v.Id ho.Id
      have c2 := usageImpl_ok m (deep hn (by decide)) v.T ho.T
      have c3 := numberD 18 _ (use_digits ho.T) (Nat.le_trans (use_lim ho.T) (by decide)) m (deep hn (by decide))
      have c4 := numberImpl_ok m (deep hn (by decide)) v.Limit ho.Limit
      have c5 := treeTextImpl_ok m (deep hn (by decide)) v.T ho.T
      simp only [go_sem] at c1 c2 c3 c4 c5
      have z1 := whole_size ho.Id; have z2 := whole_size ho.Limit; have z3 := ho.Name
      have z4 := dec_digits 18 _ (use_digits ho.T)
      have z5 := treeT_size ho.T
      have z6 := volT_size ho
      unfold okS at z3
      have hm : j * 108002000000 ≤ 1048576 * 108002000000 := Nat.mul_le_mul_right _ (by omega)
      rw [fsL_drop hv] at he
      unfold volT at he z6
      simp only [ByteArray.append_assoc, ByteArray.size_append] at he z6
      generalize treeT v.T = W5 at c5 z5 z6 he
      generalize whole v.Id = W1 at c1 z1 z6 he
      generalize whole v.Limit = W4 at c4 z2 z6 he
      generalize useU v.T.Inodes = u at c2 c3 z4 z6 he
      generalize dec u = W3 at c3 z4 z6 he
      cases hr : v.Ro <;> rw [hr] at he z6 <;> simp only [modeT] at he z6
      all_goals
        have e0 : (((W1.size + 1 : Nat) : Int) > IntKind.i64.max) = False := cat_ok (by omega)
        have e1 : (((W1.size + 1 + v.Name.size : Nat) : Int) > IntKind.i64.max) = False := cat_ok (by omega)
        have e2 : (((W1.size + 1 + v.Name.size + 4 : Nat) : Int) > IntKind.i64.max) = False := cat_ok (by omega)
        have e3 : (((W1.size + 1 + v.Name.size + 4 + W3.size : Nat) : Int) > IntKind.i64.max) = False := cat_ok (by omega)
        have e4 : (((W1.size + 1 + v.Name.size + 4 + W3.size + 1 : Nat) : Int) > IntKind.i64.max) = False := cat_ok (by omega)
        have e5 : (((W1.size + 1 + v.Name.size + 4 + W3.size + 1 + W4.size : Nat) : Int) > IntKind.i64.max) = False := cat_ok (by omega)
        have e6 : (((W1.size + 1 + v.Name.size + 4 + W3.size + 1 + W4.size + 1 : Nat) : Int) > IntKind.i64.max) = False := cat_ok (by omega)
        have e7 : (((W1.size + 1 + v.Name.size + 4 + W3.size + 1 + W4.size + 1 + W5.size : Nat) : Int) > IntKind.i64.max) = False := cat_ok (by omega)
        have e8 : (((s.size + (W1.size + 1 + v.Name.size + 4 + W3.size + 1 + W4.size + 1 + W5.size) : Nat) : Int) > IntKind.i64.max) = False := cat_ok (by omega)
        simp only [go_sem, Nat.reduceLT, Nat.reduceAdd, Nat.reduceSub, Nat.reduceEqDiff, Nat.reduceLeDiff, Int.reduceEq, Int.reduceBEq, Int.reduceBNe, Int.reduceNeg, UInt8.reduceToNat, Nat.reduceBEq, ByteArray.size_append, size_lit, e0, e1, e2, e3, e4, e5, e6, e7, e8, h1, hv, hr, c1, c2, c3, c4, c5, wrap_succ hlt (by omega)]
        refine chk (by kernel_rfl) ⟨_, by omega, j + 1, _, hlt, rfl, ?_, ?_, rfl⟩
        · simp only [ByteArray.append_assoc] at he ⊢
          exact he
        · simp only [ByteArray.size_append, size_lit, List.length_cons, List.length_nil] at z6 ⊢; omega
    · have h1 : ¬ ((j : Int) < (x.Vols.length : Int)) := by omega
      obtain rfl : j = x.Vols.length := by omega
      have he' : s = fsL x.Vols := by
        rw [List.drop_length] at he
        rw [← he]; exact (cat_nil s).symm
      rw [← he']
      simp only [go_sem, Nat.reduceLT, Nat.reduceAdd, Nat.reduceSub, Nat.reduceEqDiff, Nat.reduceLeDiff, Int.reduceEq, Int.reduceBEq, Int.reduceBNe, Int.reduceNeg, UInt8.reduceToNat, Nat.reduceBEq, h1]

end Go.Proofs.YticgilhndadkiaaGreatDoor.R
