/- Differences: both programs take the same ones for right. -/
import Derived.Test.YtblelojdboefjaaDoorYf
set_option maxRecDepth 100000
set_option linter.unusedVariables false
set_option linter.unusedSimpArgs false
namespace Go.Proofs.YtblelojdboefjaaDoor.R
open Go

def goneAt (l : List ByteArray) (i : Nat) : Bool := match l[i]? with
  | some s => innerB s && (if i = 0 then true else match l[i - 1]? with
    | some y => lessB y s
    | none => true)
  | none => true
def freshAt (l : List TEntry) (i : Nat) : Bool := match l[i]? with
  | some e => entryB e && innerB e.First
  | none => true
def riseAt (l : List TEntry) (i : Nat) : Bool := match l[i]? with
  | some e => if i = 0 then true else match l[i - 1]? with
    | some y => lessB y.Path e.Path
    | none => true
  | none => true
def deltaB (d : TDelta) : Bool := attrsB d.Attrs && !decide ((d.Gone.length : Int) > 200) && !decide ((d.Fresh.length : Int) > 200) && allB d.Gone.length (goneAt d.Gone) && allB d.Fresh.length (freshAt d.Fresh) && allB d.Fresh.length (riseAt d.Fresh)
theorem lt_step {P : Nat → Prop} {j : Nat} (hp : ∀ i, i < j → P i) (e : P j) : ∀ i, i < j + 1 → P i := fun i hi => by
  rcases Nat.lt_succ_iff_lt_or_eq.1 hi with h | h
  · exact hp i h
  · subst h; exact e
section
variable {l : List ByteArray} {r : List TEntry} {j : Nat} {s y : ByteArray} {e f : TEntry}
theorem goneAt_0 (h : l[j]? = some s) (h0 : j = 0) : goneAt l j = innerB s := by simp only [goneAt, h, if_pos h0, Bool.and_true]
theorem goneAt_s (h : l[j]? = some s) (h0 : j ≠ 0) (hy : l[j - 1]? = some y) : goneAt l j = (innerB s && lessB y s) := by simp only [goneAt, h, if_neg h0, hy]
theorem goneAt_1 (h : l[j]? = some s) (hb : innerB s = false) : goneAt l j = false := by simp only [goneAt, h, hb, Bool.false_and]
theorem freshAt_s (h : r[j]? = some e) : freshAt r j = (entryB e && innerB e.First) := by simp only [freshAt, h]
theorem riseAt_0 (h : r[j]? = some e) (h0 : j = 0) : riseAt r j = true := by simp only [riseAt, h, if_pos h0]
theorem riseAt_s (h : r[j]? = some e) (h0 : j ≠ 0) (hy : r[j - 1]? = some f) : riseAt r j = lessB f.Path e.Path := by simp only [riseAt, h, if_neg h0, hy]
end

set_option maxHeartbeats 1000000 in
theorem rising_ok (n : Nat) (hn : Big + 1 ≤ n) (l : List TEntry) (hl : l.length ≤ Bd) : pcall env n 63 [.c .one [.sh true (.s 5 (l.map TEntry.pv))]] [] = some ⟨pvSV (.b (allB l.length (riseAt l) && decide ((l.length : Int) ≤ 200))), []⟩ := by
  obtain ⟨m, rfl⟩ := ex_pred hn
  have hB := big_bd
  have hbd : Bd = 1048576 := rfl
  refine wq_eq (wq_pcall (fn := Tryd.f63) rfl rfl rfl (Nat.le_of_ble_eq_true rfl) ?_)
  unfold Tryd.f63
  simp only [go_sem, Nat.reduceLT, Nat.reduceAdd, Nat.reduceSub, Nat.reduceEqDiff, Nat.reduceLeDiff, Int.reduceEq, Int.reduceBEq, Int.reduceBNe, Int.reduceNeg, UInt8.reduceToNat]
  refine wq_loop_at (fun k σ => ∃ j : Nat, 1 ≤ j ∧ k = l.length + 1 - j ∧ j ≤ l.length + 1 ∧ (∀ i, i < j → i < l.length → riseAt l i = true) ∧ σ = slots 25 [(0, .c .one [.sh true (.s 5 (l.map TEntry.pv))]), (3, .c .one [.sh false (.i .i64 (j : Nat))])]) l.length (by omega) ?_ ?_
  · simp only [go_sem, Nat.reduceLT, Nat.reduceAdd, Nat.reduceSub, Nat.reduceEqDiff, Nat.reduceLeDiff, Int.reduceEq, Int.reduceBEq, Int.reduceBNe, Int.reduceNeg, UInt8.reduceToNat]
    refine ⟨1, Nat.le_refl _, rfl, by omega, fun i hi hl => ?_, rfl⟩
    obtain rfl : i = 0 := by omega
    exact riseAt_0 (List.getElem?_eq_getElem hl) rfl
  · rintro k σ ⟨j, hj1, rfl, hj, hp, rfl⟩
    by_cases hlt : j < l.length
    · have h1 : ((j : Int) < (l.length : Int)) := by omega
      have hx : l[j]? = some l[j] := List.getElem?_eq_getElem hlt
      generalize l[j] = e at hx
      have hy : l[j - 1]? = some l[j - 1] := List.getElem?_eq_getElem (by omega)
      generalize l[j - 1] = y at hy
      have ee := riseAt_s hx (by omega) hy
      obtain ⟨j', hj'⟩ : ∃ j', j' = j - 1 := ⟨_, rfl⟩
      rw [← hj'] at hy
      have ws : IntKind.i64.wrap ((j : Int) - 1) = (j' : Int) := by rw [wrap_in (by omega) (by omega)]; omega
      cases b3 : lessB y.Path e.Path with
      | false =>
        rw [allB_bad hlt (by rw [ee, b3]), Bool.false_and]
        unfold lessB at b3
        simp only [go_sem, Nat.reduceLT, Nat.reduceAdd, Nat.reduceSub, Nat.reduceEqDiff, Nat.reduceLeDiff, Int.reduceEq, Int.reduceBEq, Int.reduceBNe, Int.reduceNeg, UInt8.reduceToNat, h1, hx, ws, hy, b3] <;> exact chk1 (by kernel_rfl)
      | true =>
        rw [b3] at ee
        unfold lessB at b3
        simp only [go_sem, Nat.reduceLT, Nat.reduceAdd, Nat.reduceSub, Nat.reduceEqDiff, Nat.reduceLeDiff, Int.reduceEq, Int.reduceBEq, Int.reduceBNe, Int.reduceNeg, UInt8.reduceToNat, h1, hx, ws, hy, b3, wrap_succ hlt (by omega)]
        refine chk (by kernel_rfl) ⟨_, by omega, j + 1, by omega, rfl, by omega, fun i hi hl => ?_, rfl⟩
        rcases Nat.lt_succ_iff_lt_or_eq.1 hi with h | h
        · exact hp i h hl
        · subst h; exact ee
    · have h1 : ¬ ((j : Int) < (l.length : Int)) := by omega
      rw [allB_all fun i hi => hp i (by omega) hi, Bool.true_and]
      simp only [go_sem, Nat.reduceLT, Nat.reduceAdd, Nat.reduceSub, Nat.reduceEqDiff, Nat.reduceLeDiff, Int.reduceEq, Int.reduceBEq, Int.reduceBNe, Int.reduceNeg, UInt8.reduceToNat, h1]

set_option maxHeartbeats 4000000 in
theorem deltaImpl_ok (n : Nat) (hn : Big + 10 ≤ n) (d : TDelta) (hd : d.ok) : pcall env n 29 [.c .agg (d.pv.map argC')] [] = some ⟨pvSV (.b (deltaB d)), []⟩ := by
  obtain ⟨m, rfl⟩ := ex_pred hn
  have hB := big_bd
  have hbd : Bd = 1048576 := rfl
  have hat := attrsImpl_ok m (deep hn (by decide)) d.Attrs hd.Attrs.1 hd.Attrs.2
  have hri := rising_ok m (deep hn (by decide)) d.Fresh hd.Fresh.2
  have hlg := hd.Gone.2
  have hlf := hd.Fresh.2
  simp only [go_sem] at hat hri
  refine wq_eq (wq_pcall (fn := Tryd.f29) rfl rfl rfl (Nat.le_of_ble_eq_true rfl) ?_)
  unfold Tryd.f29
  simp only [go_sem, Nat.reduceLT, Nat.reduceAdd, Nat.reduceSub, Nat.reduceEqDiff, Nat.reduceLeDiff, Int.reduceEq, Int.reduceBEq, Int.reduceBNe, Int.reduceNeg, UInt8.reduceToNat]
  refine wq_loop_at (fun k σ => ∃ j : Nat, j ≤ d.Gone.length ∧ k = d.Gone.length - j ∧ (∀ i, i < j → goneAt d.Gone i = true) ∧ σ = slots 64 [(1, .c .box [.sh true (.s 2 (d.Attrs.map TAttr.pv)), .sh true (.s 1 (d.Gone.map spv)), .sh true (.s 5 (d.Fresh.map TEntry.pv))]), (8, .c .one [.sh true (.s 1 (d.Gone.map spv))]), (9, .c .one [.sh false (.i .i64 (d.Gone.length : Nat))]), (10, .c .one [.sh false (.i .i64 (j : Nat))])]) d.Gone.length (by omega) ?_ ?_
  · simp only [go_sem, Nat.reduceLT, Nat.reduceAdd, Nat.reduceSub, Nat.reduceEqDiff, Nat.reduceLeDiff, Int.reduceEq, Int.reduceBEq, Int.reduceBNe, Int.reduceNeg, UInt8.reduceToNat]
    exact ⟨0, Nat.zero_le _, rfl, fun i hi => absurd hi (Nat.not_lt_zero _), rfl⟩
  · rintro k σ ⟨j, hj, rfl, hp, rfl⟩
    by_cases hlt : j < d.Gone.length
    · have h1 : ((j : Int) < (d.Gone.length : Int)) := by omega
      have hx : d.Gone[j]? = some d.Gone[j] := List.getElem?_eq_getElem hlt
      have hok := hd.Gone.1 _ (List.getElem_mem hlt)
      generalize d.Gone[j] = s at hx hok
      have hc := isInner_ok m (deep hn (by decide)) s hok
      simp only [go_sem] at hc
      have step : goneAt d.Gone j = true → ∀ i, i < j + 1 → goneAt d.Gone i = true := fun e => lt_step hp e
      have bad : goneAt d.Gone j = false → deltaB d = false := fun e => by unfold deltaB; rw [allB_bad hlt e]; simp only [Bool.and_false, Bool.false_and]
      cases b4 : innerB s with
      | false =>
        rw [bad (goneAt_1 hx b4)]
        simp only [go_sem, Nat.reduceLT, Nat.reduceAdd, Nat.reduceSub, Nat.reduceEqDiff, Nat.reduceLeDiff, Int.reduceEq, Int.reduceBEq, Int.reduceBNe, Int.reduceNeg, UInt8.reduceToNat, h1, hx, hc, b4] <;> exact chk1 (by kernel_rfl)
      | true =>
        by_cases h0 : j = 0
        · have hgt : ¬ ((j : Int) > 0) := by omega
          simp only [go_sem, Nat.reduceLT, Nat.reduceAdd, Nat.reduceSub, Nat.reduceEqDiff, Nat.reduceLeDiff, Int.reduceEq, Int.reduceBEq, Int.reduceBNe, Int.reduceNeg, UInt8.reduceToNat, h1, hx, hc, b4, hgt, wrap_succ hlt (by omega)]
          exact ⟨_, by omega, j + 1, hlt, rfl, step (by rw [goneAt_0 hx h0, b4]), rfl⟩
        · have hgt : ((j : Int) > 0) := by omega
          have hy : d.Gone[j - 1]? = some d.Gone[j - 1] := List.getElem?_eq_getElem (by omega)
          generalize d.Gone[j - 1] = y at hy
          have ee := goneAt_s hx h0 hy
          rw [b4, Bool.true_and] at ee
          obtain ⟨j', hj'⟩ : ∃ j', j' = j - 1 := ⟨_, rfl⟩
          rw [← hj'] at hy
          have ws : IntKind.i64.wrap ((j : Int) - 1) = (j' : Int) := by rw [wrap_in (by omega) (by omega)]; omega
          cases b6 : lessB y s with
          | false =>
            rw [bad (by rw [ee, b6])]
            unfold lessB at b6
            simp only [go_sem, Nat.reduceLT, Nat.reduceAdd, Nat.reduceSub, Nat.reduceEqDiff, Nat.reduceLeDiff, Int.reduceEq, Int.reduceBEq, Int.reduceBNe, Int.reduceNeg, UInt8.reduceToNat, h1, hx, hc, b4, hgt, ws, hy, b6] <;> exact chk1 (by kernel_rfl)
          | true =>
            rw [b6] at ee
            unfold lessB at b6
            simp only [go_sem, Nat.reduceLT, Nat.reduceAdd, Nat.reduceSub, Nat.reduceEqDiff, Nat.reduceLeDiff, Int.reduceEq, Int.reduceBEq, Int.reduceBNe, Int.reduceNeg, UInt8.reduceToNat, h1, hx, hc, b4, hgt, ws, hy, b6, wrap_succ hlt (by omega)]
            exact ⟨_, by omega, j + 1, hlt, rfl, step ee, rfl⟩
    · have h1 : ¬ ((j : Int) < (d.Gone.length : Int)) := by omega
      obtain rfl : j = d.Gone.length := by omega
      have hpg := hp
      simp only [go_sem, Nat.reduceLT, Nat.reduceAdd, Nat.reduceSub, Nat.reduceEqDiff, Nat.reduceLeDiff, Int.reduceEq, Int.reduceBEq, Int.reduceBNe, Int.reduceNeg, UInt8.reduceToNat, h1]
      clear hp h1 hlt hj
      refine wq_loop_at (fun k σ => ∃ j : Nat, j ≤ d.Fresh.length ∧ k = d.Fresh.length - j ∧ (∀ i, i < j → freshAt d.Fresh i = true) ∧ σ = slots 64 [(1, .c .box [.sh true (.s 2 (d.Attrs.map TAttr.pv)), .sh true (.s 1 (d.Gone.map spv)), .sh true (.s 5 (d.Fresh.map TEntry.pv))]), (34, .c .one [.sh true (.s 5 (d.Fresh.map TEntry.pv))]), (35, .c .one [.sh false (.i .i64 (d.Fresh.length : Nat))]), (36, .c .one [.sh false (.i .i64 (j : Nat))])]) d.Fresh.length (by omega) ?_ ?_
      · simp only [go_sem, Nat.reduceLT, Nat.reduceAdd, Nat.reduceSub, Nat.reduceEqDiff, Nat.reduceLeDiff, Int.reduceEq, Int.reduceBEq, Int.reduceBNe, Int.reduceNeg, UInt8.reduceToNat]
        exact ⟨0, Nat.zero_le _, rfl, fun i hi => absurd hi (Nat.not_lt_zero _), rfl⟩
      · rintro k σ ⟨j, hj, rfl, hp, rfl⟩
        by_cases hlt : j < d.Fresh.length
        · have h1 : ((j : Int) < (d.Fresh.length : Int)) := by omega
          have hx : d.Fresh[j]? = some d.Fresh[j] := List.getElem?_eq_getElem hlt
          have hok := hd.Fresh.1 _ (List.getElem_mem hlt)
          generalize d.Fresh[j] = e at hx hok
          have hc := isInner_ok m (deep hn (by decide)) e.First hok.First
          have hen := entryOkImpl_ok m (deep hn (by decide)) e hok
          simp only [go_sem] at hc hen
          have step : freshAt d.Fresh j = true → ∀ i, i < j + 1 → freshAt d.Fresh i = true := fun e => lt_step hp e
          have bad : allB d.Fresh.length (freshAt d.Fresh) = false → deltaB d = false := fun e => by unfold deltaB; rw [e]; simp only [Bool.and_false, Bool.false_and]
          cases b4 : entryB e with
          | false =>
            rw [bad (by rw [allB_bad hlt (by rw [freshAt_s hx, b4]; rfl)])]
            simp only [go_sem, Nat.reduceLT, Nat.reduceAdd, Nat.reduceSub, Nat.reduceEqDiff, Nat.reduceLeDiff, Int.reduceEq, Int.reduceBEq, Int.reduceBNe, Int.reduceNeg, UInt8.reduceToNat, h1, hx, hen, b4]
          | true =>
            cases b5 : innerB e.First with
            | false =>
              rw [bad (by rw [allB_bad hlt (by rw [freshAt_s hx, b4, b5]; rfl)])]
              simp only [go_sem, Nat.reduceLT, Nat.reduceAdd, Nat.reduceSub, Nat.reduceEqDiff, Nat.reduceLeDiff, Int.reduceEq, Int.reduceBEq, Int.reduceBNe, Int.reduceNeg, UInt8.reduceToNat, h1, hx, hen, b4, hc, b5]
            | true =>
              simp only [go_sem, Nat.reduceLT, Nat.reduceAdd, Nat.reduceSub, Nat.reduceEqDiff, Nat.reduceLeDiff, Int.reduceEq, Int.reduceBEq, Int.reduceBNe, Int.reduceNeg, UInt8.reduceToNat, h1, hx, hen, b4, hc, b5, wrap_succ hlt (by omega)]
              exact ⟨_, by omega, j + 1, hlt, rfl, step (by rw [freshAt_s hx, b4, b5]; rfl), rfl⟩
        · have h1 : ¬ ((j : Int) < (d.Fresh.length : Int)) := by omega
          obtain rfl : j = d.Fresh.length := by omega
          have eg : deltaB d = (attrsB d.Attrs && !decide ((d.Gone.length : Int) > 200) && !decide ((d.Fresh.length : Int) > 200) && allB d.Fresh.length (riseAt d.Fresh)) := by
            unfold deltaB; rw [allB_all hpg, allB_all hp, Bool.and_true, Bool.and_true]
          rw [eg]
          cases b1 : attrsB d.Attrs with
          | false => simp only [go_sem, Nat.reduceLT, Nat.reduceAdd, Nat.reduceSub, Nat.reduceEqDiff, Nat.reduceLeDiff, Int.reduceEq, Int.reduceBEq, Int.reduceBNe, Int.reduceNeg, UInt8.reduceToNat, h1, hat, b1]
          | true =>
            by_cases b2 : ((d.Gone.length : Int) ≤ 200)
            · have b2' : ¬ ((d.Gone.length : Int) > 200) := by omega
              by_cases b3 : ((d.Fresh.length : Int) ≤ 200)
              · have b3' : ¬ ((d.Fresh.length : Int) > 200) := by omega
                simp only [go_sem, Nat.reduceLT, Nat.reduceAdd, Nat.reduceSub, Nat.reduceEqDiff, Nat.reduceLeDiff, Int.reduceEq, Int.reduceBEq, Int.reduceBNe, Int.reduceNeg, UInt8.reduceToNat, h1, hat, b1, b2, b2', b3, b3', hri]
              · have b3' : ((d.Fresh.length : Int) > 200) := by omega
                simp only [go_sem, Nat.reduceLT, Nat.reduceAdd, Nat.reduceSub, Nat.reduceEqDiff, Nat.reduceLeDiff, Int.reduceEq, Int.reduceBEq, Int.reduceBNe, Int.reduceNeg, UInt8.reduceToNat, h1, hat, b1, b2, b2', b3, b3', hri]
            · have b2' : ((d.Gone.length : Int) > 200) := by omega
              simp only [go_sem, Nat.reduceLT, Nat.reduceAdd, Nat.reduceSub, Nat.reduceEqDiff, Nat.reduceLeDiff, Int.reduceEq, Int.reduceBEq, Int.reduceBNe, Int.reduceNeg, UInt8.reduceToNat, h1, hat, b1, b2, b2']

set_option maxHeartbeats 4000000 in
theorem deltaSpec_ok (n : Nat) (hn : Big + 10 ≤ n) (d : TDelta) (hd : d.ok) : pcall env n 21 [.c .agg (d.pv.map argC')] [] = some ⟨pvSV (.b (deltaB d)), []⟩ := by
  obtain ⟨m, rfl⟩ := ex_pred hn
  have hB := big_bd
  have hbd : Bd = 1048576 := rfl
  have hat := attrsSpec_ok m (deep hn (by decide)) d.Attrs hd.Attrs.1 hd.Attrs.2
  have hri := rising_ok m (deep hn (by decide)) d.Fresh hd.Fresh.2
  have hlg := hd.Gone.2
  have hlf := hd.Fresh.2
  simp only [go_sem] at hat hri
  refine wq_eq (wq_pcall (fn := Tryd.f21) rfl rfl rfl (Nat.le_of_ble_eq_true rfl) ?_)
  unfold Tryd.f21
  cases b1 : attrsB d.Attrs with
  | false =>
    have eg : deltaB d = false := by unfold deltaB; rw [b1]; rfl
    rw [eg]
    simp only [go_sem, Nat.reduceLT, Nat.reduceAdd, Nat.reduceSub, Nat.reduceEqDiff, Nat.reduceLeDiff, Int.reduceEq, Int.reduceBEq, Int.reduceBNe, Int.reduceNeg, UInt8.reduceToNat, hat, b1]
  | true =>
  by_cases b2 : ((d.Gone.length : Int) > 200)
  · have eg : deltaB d = false := by unfold deltaB; simp only [b2, decide_true, Bool.not_true, Bool.and_false, Bool.false_and]
    rw [eg]
    simp only [go_sem, Nat.reduceLT, Nat.reduceAdd, Nat.reduceSub, Nat.reduceEqDiff, Nat.reduceLeDiff, Int.reduceEq, Int.reduceBEq, Int.reduceBNe, Int.reduceNeg, UInt8.reduceToNat, hat, b1, b2]
  by_cases b3 : ((d.Fresh.length : Int) > 200)
  · have eg : deltaB d = false := by unfold deltaB; simp only [b3, decide_true, Bool.not_true, Bool.and_false, Bool.false_and]
    rw [eg]
    simp only [go_sem, Nat.reduceLT, Nat.reduceAdd, Nat.reduceSub, Nat.reduceEqDiff, Nat.reduceLeDiff, Int.reduceEq, Int.reduceBEq, Int.reduceBNe, Int.reduceNeg, UInt8.reduceToNat, hat, b1, b2, b3]
  simp only [go_sem, Nat.reduceLT, Nat.reduceAdd, Nat.reduceSub, Nat.reduceEqDiff, Nat.reduceLeDiff, Int.reduceEq, Int.reduceBEq, Int.reduceBNe, Int.reduceNeg, UInt8.reduceToNat, hat, b1, b2, b3]
  refine wq_loop_at (fun k σ => ∃ j : Nat, j ≤ d.Gone.length ∧ k = d.Gone.length - j ∧ (∀ i, i < j → goneAt d.Gone i = true) ∧ σ = slots 107 [(1, .c .box [.sh true (.s 2 (d.Attrs.map TAttr.pv)), .sh true (.s 1 (d.Gone.map spv)), .sh true (.s 5 (d.Fresh.map TEntry.pv))]), (3, .c .one [.sh false (.i .i64 (j : Nat))])]) d.Gone.length (by omega) ?_ ?_
  · simp only [go_sem, Nat.reduceLT, Nat.reduceAdd, Nat.reduceSub, Nat.reduceEqDiff, Nat.reduceLeDiff, Int.reduceEq, Int.reduceBEq, Int.reduceBNe, Int.reduceNeg, UInt8.reduceToNat]
    exact ⟨0, Nat.zero_le _, rfl, fun i hi => absurd hi (Nat.not_lt_zero _), rfl⟩
  · rintro k σ ⟨j, hj, rfl, hp, rfl⟩
    by_cases hlt : j < d.Gone.length
    · have h1 : ((j : Int) < (d.Gone.length : Int)) := by omega
      have hx : d.Gone[j]? = some d.Gone[j] := List.getElem?_eq_getElem hlt
      have hok := hd.Gone.1 _ (List.getElem_mem hlt)
      generalize d.Gone[j] = s at hx hok
      obtain ⟨pa, pb, hc⟩ := parentOf_ok m (deep hn (by decide)) s hok
      simp only [go_sem] at hc
      have step : goneAt d.Gone j = true → ∀ i, i < j + 1 → goneAt d.Gone i = true := fun e => lt_step hp e
      have bad : goneAt d.Gone j = false → deltaB d = false := fun e => by unfold deltaB; rw [allB_bad hlt e]; simp only [Bool.and_false, Bool.false_and]
      cases b4 : innerB s with
      | false =>
        rw [bad (goneAt_1 hx b4)]
        simp only [go_sem, Nat.reduceLT, Nat.reduceAdd, Nat.reduceSub, Nat.reduceEqDiff, Nat.reduceLeDiff, Int.reduceEq, Int.reduceBEq, Int.reduceBNe, Int.reduceNeg, UInt8.reduceToNat, h1, hx, hc, b4] <;> exact chk1 (by kernel_rfl)
      | true =>
        by_cases h0 : j = 0
        · have hgt : ¬ ((j : Int) > 0) := by omega
          simp only [go_sem, Nat.reduceLT, Nat.reduceAdd, Nat.reduceSub, Nat.reduceEqDiff, Nat.reduceLeDiff, Int.reduceEq, Int.reduceBEq, Int.reduceBNe, Int.reduceNeg, UInt8.reduceToNat, h1, hx, hc, b4, hgt, wrap_succ hlt (by omega)]
          exact chk (by kernel_rfl) ⟨_, by omega, j + 1, hlt, rfl, step (by rw [goneAt_0 hx h0, b4]), rfl⟩
        · have hgt : ((j : Int) > 0) := by omega
          have hy : d.Gone[j - 1]? = some d.Gone[j - 1] := List.getElem?_eq_getElem (by omega)
          generalize d.Gone[j - 1] = y at hy
          have ee := goneAt_s hx h0 hy
          rw [b4, Bool.true_and] at ee
          obtain ⟨j', hj'⟩ : ∃ j', j' = j - 1 := ⟨_, rfl⟩
          rw [← hj'] at hy
          have ws : IntKind.i64.wrap ((j : Int) - 1) = (j' : Int) := by rw [wrap_in (by omega) (by omega)]; omega
          cases b6 : lessB y s with
          | false =>
            rw [bad (by rw [ee, b6])]
            unfold lessB at b6
            simp only [go_sem, Nat.reduceLT, Nat.reduceAdd, Nat.reduceSub, Nat.reduceEqDiff, Nat.reduceLeDiff, Int.reduceEq, Int.reduceBEq, Int.reduceBNe, Int.reduceNeg, UInt8.reduceToNat, h1, hx, hc, b4, hgt, ws, hy, b6] <;> exact chk1 (by kernel_rfl)
          | true =>
            rw [b6] at ee
            unfold lessB at b6
            simp only [go_sem, Nat.reduceLT, Nat.reduceAdd, Nat.reduceSub, Nat.reduceEqDiff, Nat.reduceLeDiff, Int.reduceEq, Int.reduceBEq, Int.reduceBNe, Int.reduceNeg, UInt8.reduceToNat, h1, hx, hc, b4, hgt, ws, hy, b6, wrap_succ hlt (by omega)]
            exact chk (by kernel_rfl) ⟨_, by omega, j + 1, hlt, rfl, step ee, rfl⟩
    · have h1 : ¬ ((j : Int) < (d.Gone.length : Int)) := by omega
      obtain rfl : j = d.Gone.length := by omega
      have hpg := hp
      simp only [go_sem, Nat.reduceLT, Nat.reduceAdd, Nat.reduceSub, Nat.reduceEqDiff, Nat.reduceLeDiff, Int.reduceEq, Int.reduceBEq, Int.reduceBNe, Int.reduceNeg, UInt8.reduceToNat, h1]
      clear hp h1 hlt hj
      refine wq_loop_at (fun k σ => ∃ j : Nat, j ≤ d.Fresh.length ∧ k = d.Fresh.length - j ∧ (∀ i, i < j → (freshAt d.Fresh i && riseAt d.Fresh i) = true) ∧ σ = slots 107 [(1, .c .box [.sh true (.s 2 (d.Attrs.map TAttr.pv)), .sh true (.s 1 (d.Gone.map spv)), .sh true (.s 5 (d.Fresh.map TEntry.pv))]), (7, .c .one [.sh false (.i .i64 (j : Nat))])]) d.Fresh.length (by omega) ?_ ?_
      · simp only [go_sem, Nat.reduceLT, Nat.reduceAdd, Nat.reduceSub, Nat.reduceEqDiff, Nat.reduceLeDiff, Int.reduceEq, Int.reduceBEq, Int.reduceBNe, Int.reduceNeg, UInt8.reduceToNat]
        exact ⟨0, Nat.zero_le _, rfl, fun i hi => absurd hi (Nat.not_lt_zero _), rfl⟩
      · rintro k σ ⟨j, hj, rfl, hp, rfl⟩
        by_cases hlt : j < d.Fresh.length
        · have h1 : ((j : Int) < (d.Fresh.length : Int)) := by omega
          have hx : d.Fresh[j]? = some d.Fresh[j] := List.getElem?_eq_getElem hlt
          have hok := hd.Fresh.1 _ (List.getElem_mem hlt)
          generalize d.Fresh[j] = e at hx hok
          obtain ⟨pa, pb, hc⟩ := parentOf_ok m (deep hn (by decide)) e.First hok.First
          have hen := entryOkSpec_ok m (deep hn (by decide)) e hok
          simp only [go_sem] at hc hen
          have step : (freshAt d.Fresh j && riseAt d.Fresh j) = true → ∀ i, i < j + 1 → (freshAt d.Fresh i && riseAt d.Fresh i) = true := fun e => lt_step hp e
          have bad : allB d.Fresh.length (freshAt d.Fresh) = false → deltaB d = false := fun e => by unfold deltaB; rw [e]; simp only [Bool.and_false, Bool.false_and]
          have badr : allB d.Fresh.length (riseAt d.Fresh) = false → deltaB d = false := fun e => by unfold deltaB; rw [e, Bool.and_false]
          cases b4 : entryB e with
          | false =>
            rw [bad (by rw [allB_bad hlt (by rw [freshAt_s hx, b4]; rfl)])]
            simp only [go_sem, Nat.reduceLT, Nat.reduceAdd, Nat.reduceSub, Nat.reduceEqDiff, Nat.reduceLeDiff, Int.reduceEq, Int.reduceBEq, Int.reduceBNe, Int.reduceNeg, UInt8.reduceToNat, h1, hx, hen, b4, hc] <;> exact chk1 (by kernel_rfl)
          | true =>
            cases b5 : innerB e.First with
            | false =>
              rw [bad (by rw [allB_bad hlt (by rw [freshAt_s hx, b4, b5]; rfl)])]
              simp only [go_sem, Nat.reduceLT, Nat.reduceAdd, Nat.reduceSub, Nat.reduceEqDiff, Nat.reduceLeDiff, Int.reduceEq, Int.reduceBEq, Int.reduceBNe, Int.reduceNeg, UInt8.reduceToNat, h1, hx, hen, b4, hc, b5] <;> exact chk1 (by kernel_rfl)
            | true =>
              have ef : freshAt d.Fresh j = true := by rw [freshAt_s hx, b4, b5]; rfl
              by_cases h0 : j = 0
              · have hgt : ¬ ((j : Int) > 0) := by omega
                simp only [go_sem, Nat.reduceLT, Nat.reduceAdd, Nat.reduceSub, Nat.reduceEqDiff, Nat.reduceLeDiff, Int.reduceEq, Int.reduceBEq, Int.reduceBNe, Int.reduceNeg, UInt8.reduceToNat, h1, hx, hen, b4, hc, b5, hgt, wrap_succ hlt (by omega)]
                exact chk (by kernel_rfl) ⟨_, by omega, j + 1, hlt, rfl, step (by rw [ef, riseAt_0 hx h0]; rfl), rfl⟩
              · have hgt : ((j : Int) > 0) := by omega
                have hy : d.Fresh[j - 1]? = some d.Fresh[j - 1] := List.getElem?_eq_getElem (by omega)
                generalize d.Fresh[j - 1] = y at hy
                have ee := riseAt_s hx h0 hy
                obtain ⟨j', hj'⟩ : ∃ j', j' = j - 1 := ⟨_, rfl⟩
                rw [← hj'] at hy
                have ws : IntKind.i64.wrap ((j : Int) - 1) = (j' : Int) := by rw [wrap_in (by omega) (by omega)]; omega
                cases b6 : lessB y.Path e.Path with
                | false =>
                  rw [badr (by rw [allB_bad hlt (by rw [ee, b6])])]
                  unfold lessB at b6
                  simp only [go_sem, Nat.reduceLT, Nat.reduceAdd, Nat.reduceSub, Nat.reduceEqDiff, Nat.reduceLeDiff, Int.reduceEq, Int.reduceBEq, Int.reduceBNe, Int.reduceNeg, UInt8.reduceToNat, h1, hx, hen, b4, hc, b5, hgt, ws, hy, b6] <;> exact chk1 (by kernel_rfl)
                | true =>
                  have er : (freshAt d.Fresh j && riseAt d.Fresh j) = true := by rw [ef, ee, b6]; rfl
                  unfold lessB at b6
                  simp only [go_sem, Nat.reduceLT, Nat.reduceAdd, Nat.reduceSub, Nat.reduceEqDiff, Nat.reduceLeDiff, Int.reduceEq, Int.reduceBEq, Int.reduceBNe, Int.reduceNeg, UInt8.reduceToNat, h1, hx, hen, b4, hc, b5, hgt, ws, hy, b6, wrap_succ hlt (by omega)]
                  exact chk (by kernel_rfl) ⟨_, by omega, j + 1, hlt, rfl, step er, rfl⟩
        · have h1 : ¬ ((j : Int) < (d.Fresh.length : Int)) := by omega
          obtain rfl : j = d.Fresh.length := by omega
          have eg : deltaB d = true := by
            have hq := allB_all hp
            rw [allB_and] at hq
            simp only [Bool.and_eq_true] at hq
            unfold deltaB; rw [allB_all hpg, hq.1, hq.2, b1, decide_eq_false b2, decide_eq_false b3]; rfl
          rw [eg]
          simp only [go_sem, Nat.reduceLT, Nat.reduceAdd, Nat.reduceSub, Nat.reduceEqDiff, Nat.reduceLeDiff, Int.reduceEq, Int.reduceBEq, Int.reduceBNe, Int.reduceNeg, UInt8.reduceToNat, h1]

end Go.Proofs.YtblelojdboefjaaDoor.R
