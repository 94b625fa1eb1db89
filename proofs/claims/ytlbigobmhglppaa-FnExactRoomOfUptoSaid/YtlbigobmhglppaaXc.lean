/- How many pages are written, and how much room there is: both programs count the same. -/
import Derived.Test.YtlbigobmhglppaaF
set_option maxRecDepth 100000
set_option linter.unusedVariables false
set_option linter.unusedSimpArgs false
namespace Go.Proofs.Ytlbigobmhglppaa.R
open Go

/-- The pages of the list that are written. -/
def usedN : List TPage → Nat
  | [] => 0
  | p :: l => (if p.Used then 1 else 0) + usedN l
theorem usedN_le : ∀ l, usedN l ≤ l.length
  | [] => Nat.le_refl _
  | p :: l => by have := usedN_le l; simp only [usedN, List.length_cons]; split <;> omega
theorem usedN_drop {l : List TPage} {j : Nat} {p : TPage} (h : l[j]? = some p) : usedN (l.drop j) = (if p.Used then 1 else 0) + usedN (l.drop (j + 1)) := by
  obtain ⟨hj, rfl⟩ := List.getElem?_eq_some_iff.1 h
  rw [List.drop_eq_getElem_cons hj]; rfl
theorem usedN_end {l : List TPage} : usedN (l.drop l.length) = 0 := by rw [List.drop_length]; rfl

theorem l10Next_ok (n : Nat) (hn : Big + 1 ≤ n) (b : TBlock) (hb : b.ok) : pcall env n 26 [.c .agg (b.pv.map argC')] [] = some ⟨pvSV (.i .i64 (usedN b.Pages : Nat)), []⟩ := by
  obtain ⟨m, rfl⟩ := ex_pred hn
  have hB := big_bd
  have hbd : Bd = 1048576 := rfl
  have hl := hb.Pages.2
  refine wq_eq (wq_pcall (fn := Try.f26) rfl rfl rfl (Nat.le_of_ble_eq_true rfl) ?_)
  unfold Try.f26
  simp only [go_sem, Nat.reduceLT, Nat.reduceAdd, Nat.reduceSub, Nat.reduceEqDiff, Nat.reduceLeDiff]
  refine wq_loop_at (fun k σ => ∃ (j s : Nat), j ≤ b.Pages.length ∧ k = b.Pages.length - j ∧ s + usedN (b.Pages.drop j) = usedN b.Pages ∧ s ≤ j ∧ σ = slots 21 [(1, .c .box [.sh true (.s 2 (b.Pages.map TPage.pv)), .sh false (.i .i64 b.Wear), .sh false (.b b.Bad)]), (3, .c .one [.sh false (.i .i64 (s : Nat))]), (4, .c .one [.sh false (.i .i64 (j : Nat))])]) b.Pages.length (by omega) ?_ ?_
  · simp only [go_sem, Nat.reduceLT, Nat.reduceAdd, Nat.reduceSub, Nat.reduceEqDiff, Nat.reduceLeDiff]
    exact ⟨0, 0, Nat.zero_le _, rfl, by simp, Nat.zero_le _, rfl⟩
  · rintro k σ ⟨j, s, hj, rfl, he, hs, rfl⟩
    by_cases hlt : j < b.Pages.length
    · have h1 : ((j : Int) < (b.Pages.length : Int)) := by omega
      have hx : b.Pages[j]? = some b.Pages[j] := List.getElem?_eq_getElem hlt
      generalize b.Pages[j] = p at hx
      rw [usedN_drop hx] at he
      have hw : s < 2097152 := by omega
      simp only [go_sem, Nat.reduceLT, Nat.reduceAdd, Nat.reduceSub, Nat.reduceEqDiff, Nat.reduceLeDiff, h1, hx, wrap_succ hlt (by omega)]
      refine bq_mk (fun h => ?_) (fun h => ?_) <;> simp only [go_sem, Nat.reduceLT, Nat.reduceAdd, Nat.reduceSub, Nat.reduceEqDiff, Nat.reduceLeDiff, wrap_succ hlt (by omega), wrap_succ hw (by omega)]
      · rw [if_pos h] at he
        exact ⟨_, by omega, j + 1, s + 1, hlt, rfl, by omega, by omega, rfl⟩
      · rw [if_neg h] at he
        exact ⟨_, by omega, j + 1, s, hlt, rfl, by omega, by omega, rfl⟩
    · have h1 : ¬ ((j : Int) < (b.Pages.length : Int)) := by omega
      obtain rfl : j = b.Pages.length := by omega
      rw [usedN_end, Nat.add_zero] at he
      simp only [go_sem, Nat.reduceLT, Nat.reduceAdd, Nat.reduceSub, Nat.reduceEqDiff, Nat.reduceLeDiff, h1, he]

theorem from_ok (n : Nat) (hn : Big + 1 ≤ n) (a b c : Int) : pcall env n 60 [pvSV (.i .i64 a), pvSV (.i .i64 b), pvSV (.i .i64 c)] [] = some ⟨pvSV (.b (decide (a ≥ b) && decide (a ≤ c))), []⟩ := by
  obtain ⟨m, rfl⟩ := ex_pred hn
  refine wq_eq (wq_pcall (fn := Try.f60) rfl rfl rfl (Nat.le_of_ble_eq_true rfl) ?_)
  unfold Try.f60
  by_cases h : a ≥ b
  · simp only [go_sem, Nat.reduceLT, Nat.reduceAdd, Nat.reduceSub, Nat.reduceEqDiff, Nat.reduceLeDiff, Int.reduceEq, h, decide_true, decide_false]
  · simp only [go_sem, Nat.reduceLT, Nat.reduceAdd, Nat.reduceSub, Nat.reduceEqDiff, Nat.reduceLeDiff, Int.reduceEq, h, decide_true, decide_false]

theorem isBlock_ok (n : Nat) (hn : Big + 2 ≤ n) (l : List TBlock) (hl : l.length ≤ Bd) (i : Nat) (hi : i < l.length) : pcall env n 45 [.c .agg [.sh true (.s 3 (l.map TBlock.pv))], pvSV (.i .i64 (i : Nat))] [] = some ⟨pvSV (.b true), []⟩ := by
  obtain ⟨m, rfl⟩ := ex_pred hn
  have hbd : Bd = 1048576 := rfl
  have hw : IntKind.i64.wrap ((l.length : Int) - 1) = (l.length : Int) - 1 := wrap_in (by omega) (by omega)
  have hc := from_ok m (deep hn (by decide)) (i : Nat) 0 ((l.length : Int) - 1)
  have h1 : decide ((i : Int) ≥ 0) = true := by simp
  have h2 : decide ((i : Int) ≤ (l.length : Int) - 1) = true := by simp; omega
  rw [h1, h2] at hc
  simp only [go_sem] at hc
  refine wq_eq (wq_pcall (fn := Try.f45) rfl rfl rfl (Nat.le_of_ble_eq_true rfl) ?_)
  unfold Try.f45
  simp only [go_sem, Nat.reduceLT, Nat.reduceAdd, Nat.reduceSub, Nat.reduceEqDiff, Nat.reduceLeDiff, Int.reduceEq, hw, hc]

theorem nextPage_ok (n : Nat) (hn : Big + 3 ≤ n) (l : List TBlock) (ho : ∀ y ∈ l, TBlock.ok y) (hl : l.length ≤ Bd) (i : Nat) (b : TBlock) (hi : l[i]? = some b) : pcall env n 30 [.c .agg [.sh true (.s 3 (l.map TBlock.pv))], pvSV (.i .i64 (i : Nat))] [] = some ⟨pvSV (.i .i64 (usedN b.Pages : Nat)), []⟩ := by
  obtain ⟨m, rfl⟩ := ex_pred hn
  have hB := big_bd
  have hbd : Bd = 1048576 := rfl
  obtain ⟨hlt, hb⟩ := List.getElem?_eq_some_iff.1 hi
  have hb := ho b (hb ▸ List.getElem_mem hlt)
  have hl2 := hb.Pages.2
  have hc := isBlock_ok m (deep hn (by decide)) l hl i hlt
  simp only [go_sem] at hc
  refine wq_eq (wq_pcall (fn := Try.f30) rfl rfl rfl (Nat.le_of_ble_eq_true rfl) ?_)
  unfold Try.f30
  simp only [go_sem, Nat.reduceLT, Nat.reduceAdd, Nat.reduceSub, Nat.reduceEqDiff, Nat.reduceLeDiff, Int.reduceEq, hc, hi]
  refine wq_loop_at (fun k σ => ∃ (j s : Nat), j ≤ b.Pages.length ∧ k = b.Pages.length - j ∧ s + usedN (b.Pages.drop j) = usedN b.Pages ∧ s ≤ j ∧ σ = slots 29 [(2, .c .box [.sh true (.s 3 (l.map TBlock.pv))]), (5, .c .one [.sh false (.i .i64 (s : Nat))]), (17, .c .one [.sh true (.s 2 (b.Pages.map TPage.pv))]), (18, .c .one [.sh false (.i .i64 (b.Pages.length : Nat))]), (19, .c .one [.sh false (.i .i64 (j : Nat))])]) b.Pages.length (by omega) ?_ ?_
  · simp only [go_sem, Nat.reduceLT, Nat.reduceAdd, Nat.reduceSub, Nat.reduceEqDiff, Nat.reduceLeDiff, Int.reduceEq]
    exact ⟨0, 0, Nat.zero_le _, rfl, by simp, Nat.zero_le _, rfl⟩
  · rintro k σ ⟨j, s, hj, rfl, he, hs, rfl⟩
    by_cases hlt : j < b.Pages.length
    · have h1 : ((j : Int) < (b.Pages.length : Int)) := by omega
      have hx : b.Pages[j]? = some b.Pages[j] := List.getElem?_eq_getElem hlt
      generalize b.Pages[j] = p at hx
      rw [usedN_drop hx] at he
      have hw : s < 2097152 := by omega
      simp only [go_sem, Nat.reduceLT, Nat.reduceAdd, Nat.reduceSub, Nat.reduceEqDiff, Nat.reduceLeDiff, Int.reduceEq, h1, hx, wrap_succ hlt (by omega)]
      refine bq_mk (fun h => ?_) (fun h => ?_) <;> simp only [go_sem, Nat.reduceLT, Nat.reduceAdd, Nat.reduceSub, Nat.reduceEqDiff, Nat.reduceLeDiff, Int.reduceEq, wrap_succ hlt (by omega), wrap_succ hw (by omega)]
      · rw [if_pos h] at he
        exact ⟨_, by omega, j + 1, s + 1, hlt, rfl, by omega, by omega, rfl⟩
      · rw [if_neg h] at he
        exact ⟨_, by omega, j + 1, s, hlt, rfl, by omega, by omega, rfl⟩
    · have h1 : ¬ ((j : Int) < (b.Pages.length : Int)) := by omega
      obtain rfl : j = b.Pages.length := by omega
      rw [usedN_end, Nat.add_zero] at he
      simp only [go_sem, Nat.reduceLT, Nat.reduceAdd, Nat.reduceSub, Nat.reduceEqDiff, Nat.reduceLeDiff, Int.reduceEq, h1, he]

/-- The room of the blocks of a list. -/
def roomL : List TBlock → Nat
  | [] => 0
  | b :: l => (if b.Bad then 0 else b.Pages.length - usedN b.Pages) + roomL l
theorem roomL_drop {l : List TBlock} {j : Nat} {b : TBlock} (h : l[j]? = some b) : roomL (l.drop j) = (if b.Bad then 0 else b.Pages.length - usedN b.Pages) + roomL (l.drop (j + 1)) := by
  obtain ⟨hj, rfl⟩ := List.getElem?_eq_some_iff.1 h
  rw [List.drop_eq_getElem_cons hj]; rfl
theorem roomL_end {l : List TBlock} : roomL (l.drop l.length) = 0 := by rw [List.drop_length]; rfl

theorem roomSpec_ok (n : Nat) (hn : Big + 4 ≤ n) (x : TEng) (hx : x.ok) : pcall env n 11 [.c .agg (x.pv.map argC')] [] = some ⟨pvSV (.i .i64 (roomL x.L.D.C.Blocks : Nat)), []⟩ := by
  obtain ⟨m, rfl⟩ := ex_pred hn
  have hB := big_bd
  have hbd : Bd = 1048576 := rfl
  have hl := hx.L.D.C.Blocks.2
  have ho := hx.L.D.C.Blocks.1
  refine wq_eq (wq_pcall (fn := Try.f11) rfl rfl rfl (Nat.le_of_ble_eq_true rfl) ?_)
  unfold Try.f11
  simp only [go_sem, Nat.reduceLT, Nat.reduceAdd, Nat.reduceSub, Nat.reduceEqDiff, Nat.reduceLeDiff, Int.reduceEq]
  refine wq_loop_at (fun k σ => ∃ (j s : Nat), j ≤ x.L.D.C.Blocks.length ∧ k = x.L.D.C.Blocks.length - j ∧ s + roomL (x.L.D.C.Blocks.drop j) = roomL x.L.D.C.Blocks ∧ s ≤ j * 1048576 ∧ σ = slots 36 [(1, .c .box (x.pv.map argC')), (3, .c .one [.sh false (.i .i64 (s : Nat))]), (4, .c .one [.sh false (.i .i64 (j : Nat))])]) x.L.D.C.Blocks.length (by omega) ?_ ?_
  · simp only [go_sem, Nat.reduceLT, Nat.reduceAdd, Nat.reduceSub, Nat.reduceEqDiff, Nat.reduceLeDiff, Int.reduceEq]
    exact ⟨0, 0, Nat.zero_le _, rfl, by simp, Nat.zero_le _, rfl⟩
  · rintro k σ ⟨j, s, hj, rfl, he, hs, rfl⟩
    by_cases hlt : j < x.L.D.C.Blocks.length
    · have h1 : ((j : Int) < (x.L.D.C.Blocks.length : Int)) := by omega
      have hx' : x.L.D.C.Blocks[j]? = some x.L.D.C.Blocks[j] := List.getElem?_eq_getElem hlt
      have hb := ho _ (List.getElem_mem hlt)
      generalize x.L.D.C.Blocks[j] = b at hx' hb
      have hl2 := hb.Pages.2
      have hu := usedN_le b.Pages
      have hc := l10Next_ok m (deep hn (by decide)) b hb
      simp only [go_sem] at hc
      rw [roomL_drop hx'] at he
      have hm : j * 1048576 ≤ 1099511627776 := by omega
      by_cases hbad : b.Bad = true
      · rw [if_pos hbad] at he
        simp only [go_sem, Nat.reduceLT, Nat.reduceAdd, Nat.reduceSub, Nat.reduceEqDiff, Nat.reduceLeDiff, Int.reduceEq, h1, hx', hbad, wrap_succ hlt (by omega)]
        exact ⟨_, by omega, j + 1, s, hlt, rfl, by omega, Nat.le_trans hs (Nat.mul_le_mul_right _ (Nat.le_succ j)), rfl⟩
      · rw [if_neg hbad] at he
        have hbad' : b.Bad = false := by simpa using hbad
        rw [hbad'] at hc
        have w1 : IntKind.i64.wrap ((s : Int) + (b.Pages.length : Int)) = (s : Int) + (b.Pages.length : Int) := wrap_in (by omega) (by omega)
        have w2 : IntKind.i64.wrap ((s : Int) + (b.Pages.length : Int) - (usedN b.Pages : Int)) = ((s + (b.Pages.length - usedN b.Pages) : Nat) : Int) := by rw [wrap_in (by omega) (by omega)]; omega
        simp only [go_sem, Nat.reduceLT, Nat.reduceAdd, Nat.reduceSub, Nat.reduceEqDiff, Nat.reduceLeDiff, Int.reduceEq, h1, hx', hbad', hc, w1, w2, wrap_succ hlt (by omega)]
        exact chk (by kernel_rfl) ⟨_, by omega, j + 1, s + (b.Pages.length - usedN b.Pages), hlt, rfl, by omega, by omega, rfl⟩
    · have h1 : ¬ ((j : Int) < (x.L.D.C.Blocks.length : Int)) := by omega
      obtain rfl : j = x.L.D.C.Blocks.length := by omega
      rw [roomL_end, Nat.add_zero] at he
      simp only [go_sem, Nat.reduceLT, Nat.reduceAdd, Nat.reduceSub, Nat.reduceEqDiff, Nat.reduceLeDiff, Int.reduceEq, h1, he]

theorem roomImpl_ok (n : Nat) (hn : Big + 4 ≤ n) (x : TEng) (hx : x.ok) : pcall env n 13 [.c .agg (x.pv.map argC')] [] = some ⟨pvSV (.i .i64 (roomL x.L.D.C.Blocks : Nat)), []⟩ := by
  obtain ⟨m, rfl⟩ := ex_pred hn
  have hB := big_bd
  have hbd : Bd = 1048576 := rfl
  have hl := hx.L.D.C.Blocks.2
  have ho := hx.L.D.C.Blocks.1
  refine wq_eq (wq_pcall (fn := Try.f13) rfl rfl rfl (Nat.le_of_ble_eq_true rfl) ?_)
  unfold Try.f13
  simp only [go_sem, Nat.reduceLT, Nat.reduceAdd, Nat.reduceSub, Nat.reduceEqDiff, Nat.reduceLeDiff, Int.reduceEq]
  refine wq_loop_at (fun k σ => ∃ (j s : Nat), j ≤ x.L.D.C.Blocks.length ∧ k = x.L.D.C.Blocks.length - j ∧ s + roomL (x.L.D.C.Blocks.drop j) = roomL x.L.D.C.Blocks ∧ s ≤ j * 1048576 ∧ σ = slots 34 [(1, .c .box (x.pv.map argC')), (3, .c .one [.sh false (.i .i64 (s : Nat))]), (10, .c .one [.sh true (.s 3 (x.L.D.C.Blocks.map TBlock.pv))]), (11, .c .one [.sh false (.i .i64 (x.L.D.C.Blocks.length : Nat))]), (12, .c .one [.sh false (.i .i64 (j : Nat))])]) x.L.D.C.Blocks.length (by omega) ?_ ?_
  · simp only [go_sem, Nat.reduceLT, Nat.reduceAdd, Nat.reduceSub, Nat.reduceEqDiff, Nat.reduceLeDiff, Int.reduceEq]
    exact ⟨0, 0, Nat.zero_le _, rfl, by simp, Nat.zero_le _, rfl⟩
  · rintro k σ ⟨j, s, hj, rfl, he, hs, rfl⟩
    by_cases hlt : j < x.L.D.C.Blocks.length
    · have h1 : ((j : Int) < (x.L.D.C.Blocks.length : Int)) := by omega
      have hx' : x.L.D.C.Blocks[j]? = some x.L.D.C.Blocks[j] := List.getElem?_eq_getElem hlt
      have hb := ho _ (List.getElem_mem hlt)
      generalize x.L.D.C.Blocks[j] = b at hx' hb
      have hl2 := hb.Pages.2
      have hu := usedN_le b.Pages
      have hc := nextPage_ok m (deep hn (by decide)) x.L.D.C.Blocks ho hl j b hx'
      simp only [go_sem] at hc
      rw [roomL_drop hx'] at he
      have hm : j * 1048576 ≤ 1099511627776 := by omega
      by_cases hbad : b.Bad = true
      · rw [if_pos hbad] at he
        simp only [go_sem, Nat.reduceLT, Nat.reduceAdd, Nat.reduceSub, Nat.reduceEqDiff, Nat.reduceLeDiff, Int.reduceEq, h1, hx', hbad, wrap_succ hlt (by omega)]
        exact ⟨_, by omega, j + 1, s, hlt, rfl, by omega, Nat.le_trans hs (Nat.mul_le_mul_right _ (Nat.le_succ j)), rfl⟩
      · rw [if_neg hbad] at he
        have hbad' : b.Bad = false := by simpa using hbad
        have w1 : IntKind.i64.wrap ((b.Pages.length : Int) - (usedN b.Pages : Int)) = ((b.Pages.length - usedN b.Pages : Nat) : Int) := by rw [wrap_in (by omega) (by omega)]; omega
        have w2 : IntKind.i64.wrap ((s : Int) + ((b.Pages.length - usedN b.Pages : Nat) : Int)) = ((s + (b.Pages.length - usedN b.Pages) : Nat) : Int) := by rw [wrap_in (by omega) (by omega)]; omega
        simp only [go_sem, Nat.reduceLT, Nat.reduceAdd, Nat.reduceSub, Nat.reduceEqDiff, Nat.reduceLeDiff, Int.reduceEq, h1, hx', hbad', hc, w1, w2, wrap_succ hlt (by omega)]
        exact chk (by kernel_rfl) ⟨_, by omega, j + 1, s + (b.Pages.length - usedN b.Pages), hlt, rfl, by omega, by omega, rfl⟩
    · have h1 : ¬ ((j : Int) < (x.L.D.C.Blocks.length : Int)) := by omega
      obtain rfl : j = x.L.D.C.Blocks.length := by omega
      rw [roomL_end, Nat.add_zero] at he
      simp only [go_sem, Nat.reduceLT, Nat.reduceAdd, Nat.reduceSub, Nat.reduceEqDiff, Nat.reduceLeDiff, Int.reduceEq, h1, he]
end Go.Proofs.Ytlbigobmhglppaa.R
