/- What the laws' helpers answer: how much there is, copies, likeness. Printed by genfam.py. -/
import Derived.Test.YtblelojdboefjaaDoorV
import Derived.Test.YtblelojdboefjaaDoorT
import Derived.KernelRfl
set_option maxRecDepth 100000
set_option linter.unusedVariables false
set_option linter.unusedSimpArgs false
namespace Go.Proofs.YtblelojdboefjaaDoor.R
open Go
attribute [go_sem] TDelta.ov TEntry.ov
attribute [go_sem] TDelta.pv TAttr.pv TEntry.pv
theorem eqAttr_ok (n : Nat) (hn : Big + 1 ≤ n) (x : TAttr) (hx : x.ok) : pcall env n 66 [.c .agg (x.pv.map argC'), .c .agg (x.pv.map argC')] [] = some ⟨pvSV (.b true), []⟩ := by
  obtain ⟨m, rfl⟩ := ex_pred hn
  refine wq_eq (wq_pcall (fn := Tryd.f66) rfl rfl rfl (Nat.le_of_ble_eq_true rfl) ?_)
  unfold Tryd.f66
  simp only [go_sem, Nat.reduceLT, Nat.reduceAdd, Nat.reduceSub, Nat.reduceEqDiff, Nat.reduceLeDiff]
theorem eqAttrS_ok (n : Nat) (hn : Big + 2 ≤ n) (l : List TAttr) (ho : ∀ y ∈ l, TAttr.ok y) (hl : l.length ≤ Bd) : pcall env n 34 [.c .one [.sh true (.s 2 (l.map TAttr.pv))], .c .one [.sh true (.s 2 (l.map TAttr.pv))]] [] = some ⟨pvSV (.b true), []⟩ := by
  obtain ⟨m, rfl⟩ := ex_pred hn
  have hB := big_bd
  have hb : Bd = 1048576 := rfl
  refine wq_eq (wq_pcall (fn := Tryd.f34) rfl rfl rfl (Nat.le_of_ble_eq_true rfl) ?_)
  unfold Tryd.f34
  simp only [go_sem, Nat.reduceLT, Nat.reduceAdd, Nat.reduceSub, Nat.reduceEqDiff, Nat.reduceLeDiff]
  refine wq_loop_at (fun k σ => ∃ j : Nat, j ≤ l.length ∧ k = l.length - j ∧ σ = slots 27 [(0, .c .one [.sh true (.s 2 (l.map TAttr.pv))]), (1, .c .one [.sh true (.s 2 (l.map TAttr.pv))]), (5, .c .one [.sh false (.i .i64 (j : Nat))])]) l.length (by omega) ?_ ?_
  · simp only [go_sem, Nat.reduceLT, Nat.reduceAdd, Nat.reduceSub, Nat.reduceEqDiff, Nat.reduceLeDiff]
    exact ⟨0, Nat.zero_le _, rfl, rfl⟩
  · rintro k σ ⟨j, hj, rfl, rfl⟩
    by_cases hlt : j < l.length
    · have h1 : ((j : Int) < (l.length : Int)) := by omega
      have hv := eqAttr_ok m (by omega) l[j] (ho _ (List.getElem_mem hlt))
      have hx : l[j]? = some l[j] := List.getElem?_eq_getElem hlt
      generalize l[j] = x at hv hx
      try simp only [go_sem] at hv
      simp only [go_sem, Nat.reduceLT, Nat.reduceAdd, Nat.reduceSub, Nat.reduceEqDiff, Nat.reduceLeDiff, h1, hx, wrap_succ hlt (by omega), hv]
      first | exact ⟨_, by omega, j + 1, hlt, rfl, rfl⟩ | exact chk (by kernel_rfl) ⟨_, by omega, j + 1, hlt, rfl, rfl⟩
    · have h1 : ¬ ((j : Int) < (l.length : Int)) := by omega
      simp only [go_sem, Nat.reduceLT, Nat.reduceAdd, Nat.reduceSub, Nat.reduceEqDiff, Nat.reduceLeDiff, h1]
theorem eqByteS_ok (n : Nat) (hn : Big + 1 ≤ n) (l : List UInt8) (ho : ∀ y ∈ l, okB y) (hl : l.length ≤ Bd) : pcall env n 9 [.c .one [.sh true (.s 1 (l.map bpv))], .c .one [.sh true (.s 1 (l.map bpv))]] [] = some ⟨pvSV (.b true), []⟩ := by
  obtain ⟨m, rfl⟩ := ex_pred hn
  have hB := big_bd
  have hb : Bd = 1048576 := rfl
  refine wq_eq (wq_pcall (fn := Tryd.f9) rfl rfl rfl (Nat.le_of_ble_eq_true rfl) ?_)
  unfold Tryd.f9
  simp only [go_sem, Nat.reduceLT, Nat.reduceAdd, Nat.reduceSub, Nat.reduceEqDiff, Nat.reduceLeDiff]
  refine wq_loop_at (fun k σ => ∃ j : Nat, j ≤ l.length ∧ k = l.length - j ∧ σ = slots 26 [(0, .c .one [.sh true (.s 1 (l.map bpv))]), (1, .c .one [.sh true (.s 1 (l.map bpv))]), (5, .c .one [.sh false (.i .i64 (j : Nat))])]) l.length (by omega) ?_ ?_
  · simp only [go_sem, Nat.reduceLT, Nat.reduceAdd, Nat.reduceSub, Nat.reduceEqDiff, Nat.reduceLeDiff]
    exact ⟨0, Nat.zero_le _, rfl, rfl⟩
  · rintro k σ ⟨j, hj, rfl, rfl⟩
    by_cases hlt : j < l.length
    · have h1 : ((j : Int) < (l.length : Int)) := by omega
      have hx : l[j]? = some l[j] := List.getElem?_eq_getElem hlt
      generalize l[j] = x at hx
      simp only [go_sem, Nat.reduceLT, Nat.reduceAdd, Nat.reduceSub, Nat.reduceEqDiff, Nat.reduceLeDiff, h1, hx, wrap_succ hlt (by omega)]
      first | exact ⟨_, by omega, j + 1, hlt, rfl, rfl⟩ | exact chk (by kernel_rfl) ⟨_, by omega, j + 1, hlt, rfl, rfl⟩
    · have h1 : ¬ ((j : Int) < (l.length : Int)) := by omega
      simp only [go_sem, Nat.reduceLT, Nat.reduceAdd, Nat.reduceSub, Nat.reduceEqDiff, Nat.reduceLeDiff, h1]
theorem eqStringS_ok (n : Nat) (hn : Big + 1 ≤ n) (l : List ByteArray) (ho : ∀ y ∈ l, okS y) (hl : l.length ≤ Bd) : pcall env n 35 [.c .one [.sh true (.s 1 (l.map spv))], .c .one [.sh true (.s 1 (l.map spv))]] [] = some ⟨pvSV (.b true), []⟩ := by
  obtain ⟨m, rfl⟩ := ex_pred hn
  have hB := big_bd
  have hb : Bd = 1048576 := rfl
  refine wq_eq (wq_pcall (fn := Tryd.f35) rfl rfl rfl (Nat.le_of_ble_eq_true rfl) ?_)
  unfold Tryd.f35
  simp only [go_sem, Nat.reduceLT, Nat.reduceAdd, Nat.reduceSub, Nat.reduceEqDiff, Nat.reduceLeDiff]
  refine wq_loop_at (fun k σ => ∃ j : Nat, j ≤ l.length ∧ k = l.length - j ∧ σ = slots 26 [(0, .c .one [.sh true (.s 1 (l.map spv))]), (1, .c .one [.sh true (.s 1 (l.map spv))]), (5, .c .one [.sh false (.i .i64 (j : Nat))])]) l.length (by omega) ?_ ?_
  · simp only [go_sem, Nat.reduceLT, Nat.reduceAdd, Nat.reduceSub, Nat.reduceEqDiff, Nat.reduceLeDiff]
    exact ⟨0, Nat.zero_le _, rfl, rfl⟩
  · rintro k σ ⟨j, hj, rfl, rfl⟩
    by_cases hlt : j < l.length
    · have h1 : ((j : Int) < (l.length : Int)) := by omega
      have hx : l[j]? = some l[j] := List.getElem?_eq_getElem hlt
      generalize l[j] = x at hx
      simp only [go_sem, Nat.reduceLT, Nat.reduceAdd, Nat.reduceSub, Nat.reduceEqDiff, Nat.reduceLeDiff, h1, hx, wrap_succ hlt (by omega)]
      first | exact ⟨_, by omega, j + 1, hlt, rfl, rfl⟩ | exact chk (by kernel_rfl) ⟨_, by omega, j + 1, hlt, rfl, rfl⟩
    · have h1 : ¬ ((j : Int) < (l.length : Int)) := by omega
      simp only [go_sem, Nat.reduceLT, Nat.reduceAdd, Nat.reduceSub, Nat.reduceEqDiff, Nat.reduceLeDiff, h1]
theorem eqEntry_ok (n : Nat) (hn : Big + 3 ≤ n) (x : TEntry) (hx : x.ok) : pcall env n 67 [.c .agg (x.pv.map argC'), .c .agg (x.pv.map argC')] [] = some ⟨pvSV (.b true), []⟩ := by
  obtain ⟨m, rfl⟩ := ex_pred hn
  have c0 := eqByteS_ok m (by omega) x.Data hx.Data.1 hx.Data.2
  try simp only [go_sem] at c0
  have c1 := eqAttrS_ok m (by omega) x.Attrs hx.Attrs.1 hx.Attrs.2
  try simp only [go_sem] at c1
  refine wq_eq (wq_pcall (fn := Tryd.f67) rfl rfl rfl (Nat.le_of_ble_eq_true rfl) ?_)
  unfold Tryd.f67
  simp only [go_sem, Nat.reduceLT, Nat.reduceAdd, Nat.reduceSub, Nat.reduceEqDiff, Nat.reduceLeDiff, c0, c1]
theorem eqEntryS_ok (n : Nat) (hn : Big + 4 ≤ n) (l : List TEntry) (ho : ∀ y ∈ l, TEntry.ok y) (hl : l.length ≤ Bd) : pcall env n 36 [.c .one [.sh true (.s 5 (l.map TEntry.pv))], .c .one [.sh true (.s 5 (l.map TEntry.pv))]] [] = some ⟨pvSV (.b true), []⟩ := by
  obtain ⟨m, rfl⟩ := ex_pred hn
  have hB := big_bd
  have hb : Bd = 1048576 := rfl
  refine wq_eq (wq_pcall (fn := Tryd.f36) rfl rfl rfl (Nat.le_of_ble_eq_true rfl) ?_)
  unfold Tryd.f36
  simp only [go_sem, Nat.reduceLT, Nat.reduceAdd, Nat.reduceSub, Nat.reduceEqDiff, Nat.reduceLeDiff]
  refine wq_loop_at (fun k σ => ∃ j : Nat, j ≤ l.length ∧ k = l.length - j ∧ σ = slots 27 [(0, .c .one [.sh true (.s 5 (l.map TEntry.pv))]), (1, .c .one [.sh true (.s 5 (l.map TEntry.pv))]), (5, .c .one [.sh false (.i .i64 (j : Nat))])]) l.length (by omega) ?_ ?_
  · simp only [go_sem, Nat.reduceLT, Nat.reduceAdd, Nat.reduceSub, Nat.reduceEqDiff, Nat.reduceLeDiff]
    exact ⟨0, Nat.zero_le _, rfl, rfl⟩
  · rintro k σ ⟨j, hj, rfl, rfl⟩
    by_cases hlt : j < l.length
    · have h1 : ((j : Int) < (l.length : Int)) := by omega
      have hv := eqEntry_ok m (by omega) l[j] (ho _ (List.getElem_mem hlt))
      have hx : l[j]? = some l[j] := List.getElem?_eq_getElem hlt
      generalize l[j] = x at hv hx
      try simp only [go_sem] at hv
      simp only [go_sem, Nat.reduceLT, Nat.reduceAdd, Nat.reduceSub, Nat.reduceEqDiff, Nat.reduceLeDiff, h1, hx, wrap_succ hlt (by omega), hv]
      first | exact ⟨_, by omega, j + 1, hlt, rfl, rfl⟩ | exact chk (by kernel_rfl) ⟨_, by omega, j + 1, hlt, rfl, rfl⟩
    · have h1 : ¬ ((j : Int) < (l.length : Int)) := by omega
      simp only [go_sem, Nat.reduceLT, Nat.reduceAdd, Nat.reduceSub, Nat.reduceEqDiff, Nat.reduceLeDiff, h1]
theorem eqDelta_ok (n : Nat) (hn : Big + 5 ≤ n) (x : TDelta) (hx : x.ok) : pcall env n 10 [.c .agg (x.pv.map argC'), .c .agg (x.pv.map argC')] [] = some ⟨pvSV (.b true), []⟩ := by
  obtain ⟨m, rfl⟩ := ex_pred hn
  have c0 := eqAttrS_ok m (by omega) x.Attrs hx.Attrs.1 hx.Attrs.2
  try simp only [go_sem] at c0
  have c1 := eqStringS_ok m (by omega) x.Gone hx.Gone.1 hx.Gone.2
  try simp only [go_sem] at c1
  have c2 := eqEntryS_ok m (by omega) x.Fresh hx.Fresh.1 hx.Fresh.2
  try simp only [go_sem] at c2
  refine wq_eq (wq_pcall (fn := Tryd.f10) rfl rfl rfl (Nat.le_of_ble_eq_true rfl) ?_)
  unfold Tryd.f10
  simp only [go_sem, Nat.reduceLT, Nat.reduceAdd, Nat.reduceSub, Nat.reduceEqDiff, Nat.reduceLeDiff, c0, c1, c2]
theorem szAttr_ok (n : Nat) (hn : Big + 1 ≤ n) (x : TAttr) (hx : x.ok) : ∃ g : Int → Int, ∀ left, pcall env n 53 [.c .agg (x.pv.map argC'), pvSV (.i .i64 left)] [] = some ⟨pvSV (.i .i64 (g left)), []⟩ := by
  refine skolem_int fun left => ?_
  obtain ⟨m, rfl⟩ := ex_pred hn
  refine wq_int (wq_pcall (fn := Tryd.f53) rfl rfl rfl (Nat.le_of_ble_eq_true rfl) ?_)
  unfold Tryd.f53
  simp only [go_sem, Nat.reduceLT, Nat.reduceAdd, Nat.reduceSub, Nat.reduceEqDiff, Nat.reduceLeDiff]
  repeat' (first | exact ⟨_, rfl⟩ | (refine bq_mk (fun h => ?_) (fun h => ?_) <;> simp only [go_sem, Nat.reduceLT, Nat.reduceAdd, Nat.reduceSub, Nat.reduceEqDiff, Nat.reduceLeDiff]))
theorem szAttrS_ok (n : Nat) (hn : Big + 2 ≤ n) (l : List TAttr) (ho : ∀ y ∈ l, TAttr.ok y) (hl : l.length ≤ Bd) : ∃ g : Int → Int, ∀ left, pcall env n 18 [.c .one [.sh true (.s 2 (l.map TAttr.pv))], pvSV (.i .i64 left)] [] = some ⟨pvSV (.i .i64 (g left)), []⟩ := by
  refine skolem_int fun left => ?_
  obtain ⟨m, rfl⟩ := ex_pred hn
  have hB := big_bd
  have hb : Bd = 1048576 := rfl
  refine wq_int (wq_pcall (fn := Tryd.f18) rfl rfl rfl (Nat.le_of_ble_eq_true rfl) ?_)
  unfold Tryd.f18
  simp only [go_sem, Nat.reduceLT, Nat.reduceAdd, Nat.reduceSub, Nat.reduceEqDiff, Nat.reduceLeDiff]
  refine bq_mk (fun h => ?_) (fun h => ?_) <;> simp only [go_sem, Nat.reduceLT, Nat.reduceAdd, Nat.reduceSub, Nat.reduceEqDiff, Nat.reduceLeDiff]
  · exact ⟨_, rfl⟩
  refine wq_loop_at (fun k σ => ∃ v, ∃ j : Nat, j ≤ l.length ∧ k = l.length - j ∧ σ = slots 27 [(0, .c .one [.sh true (.s 2 (l.map TAttr.pv))]), (1, .c .one [.sh false (.i .i64 v)]), (5, .c .one [.sh false (.i .i64 (j : Nat))])]) l.length (by omega) ?_ ?_
  · simp only [go_sem, Nat.reduceLT, Nat.reduceAdd, Nat.reduceSub, Nat.reduceEqDiff, Nat.reduceLeDiff]
    exact ⟨_, 0, Nat.zero_le _, rfl, rfl⟩
  · rintro k σ ⟨v, j, hj, rfl, rfl⟩
    by_cases hlt : j < l.length
    · have h1 : ((j : Int) < (l.length : Int)) := by omega
      obtain ⟨g, hv⟩ := szAttr_ok m (by omega) l[j] (ho _ (List.getElem_mem hlt))
      have hx : l[j]? = some l[j] := List.getElem?_eq_getElem hlt
      generalize l[j] = x at hv hx
      try simp only [go_sem] at hv
      simp only [go_sem, Nat.reduceLT, Nat.reduceAdd, Nat.reduceSub, Nat.reduceEqDiff, Nat.reduceLeDiff, h1, hx, wrap_succ hlt (by omega), hv]
      refine bq_mk (fun h => ?_) (fun h => ?_) <;> simp only [go_sem, Nat.reduceLT, Nat.reduceAdd, Nat.reduceSub, Nat.reduceEqDiff, Nat.reduceLeDiff, h1, hx, wrap_succ hlt (by omega), hv]
      · exact ⟨_, rfl⟩
      · exact ⟨_, by omega, _, j + 1, hlt, rfl, rfl⟩
    · have h1 : ¬ ((j : Int) < (l.length : Int)) := by omega
      simp only [go_sem, Nat.reduceLT, Nat.reduceAdd, Nat.reduceSub, Nat.reduceEqDiff, Nat.reduceLeDiff, h1]
      exact ⟨_, rfl⟩
theorem szByteS_ok (n : Nat) (hn : Big + 1 ≤ n) (l : List UInt8) (ho : ∀ y ∈ l, okB y) (hl : l.length ≤ Bd) : ∃ g : Int → Int, ∀ left, pcall env n 73 [.c .one [.sh true (.s 1 (l.map bpv))], pvSV (.i .i64 left)] [] = some ⟨pvSV (.i .i64 (g left)), []⟩ := by
  refine skolem_int fun left => ?_
  obtain ⟨m, rfl⟩ := ex_pred hn
  have hB := big_bd
  have hb : Bd = 1048576 := rfl
  refine wq_int (wq_pcall (fn := Tryd.f73) rfl rfl rfl (Nat.le_of_ble_eq_true rfl) ?_)
  unfold Tryd.f73
  simp only [go_sem, Nat.reduceLT, Nat.reduceAdd, Nat.reduceSub, Nat.reduceEqDiff, Nat.reduceLeDiff]
  repeat' (first | exact ⟨_, rfl⟩ | (refine bq_mk (fun h => ?_) (fun h => ?_) <;> simp only [go_sem, Nat.reduceLT, Nat.reduceAdd, Nat.reduceSub, Nat.reduceEqDiff, Nat.reduceLeDiff]))
theorem szStringS_ok (n : Nat) (hn : Big + 1 ≤ n) (l : List ByteArray) (ho : ∀ y ∈ l, okS y) (hl : l.length ≤ Bd) : ∃ g : Int → Int, ∀ left, pcall env n 19 [.c .one [.sh true (.s 1 (l.map spv))], pvSV (.i .i64 left)] [] = some ⟨pvSV (.i .i64 (g left)), []⟩ := by
  refine skolem_int fun left => ?_
  obtain ⟨m, rfl⟩ := ex_pred hn
  have hB := big_bd
  have hb : Bd = 1048576 := rfl
  refine wq_int (wq_pcall (fn := Tryd.f19) rfl rfl rfl (Nat.le_of_ble_eq_true rfl) ?_)
  unfold Tryd.f19
  simp only [go_sem, Nat.reduceLT, Nat.reduceAdd, Nat.reduceSub, Nat.reduceEqDiff, Nat.reduceLeDiff]
  refine bq_mk (fun h => ?_) (fun h => ?_) <;> simp only [go_sem, Nat.reduceLT, Nat.reduceAdd, Nat.reduceSub, Nat.reduceEqDiff, Nat.reduceLeDiff]
  · exact ⟨_, rfl⟩
  refine wq_loop_at (fun k σ => ∃ v, ∃ j : Nat, j ≤ l.length ∧ k = l.length - j ∧ σ = slots 28 [(0, .c .one [.sh true (.s 1 (l.map spv))]), (1, .c .one [.sh false (.i .i64 v)]), (5, .c .one [.sh false (.i .i64 (j : Nat))])]) l.length (by omega) ?_ ?_
  · simp only [go_sem, Nat.reduceLT, Nat.reduceAdd, Nat.reduceSub, Nat.reduceEqDiff, Nat.reduceLeDiff]
    exact ⟨_, 0, Nat.zero_le _, rfl, rfl⟩
  · rintro k σ ⟨v, j, hj, rfl, rfl⟩
    by_cases hlt : j < l.length
    · have h1 : ((j : Int) < (l.length : Int)) := by omega
      have hx : l[j]? = some l[j] := List.getElem?_eq_getElem hlt
      generalize l[j] = x at hx
      simp only [go_sem, Nat.reduceLT, Nat.reduceAdd, Nat.reduceSub, Nat.reduceEqDiff, Nat.reduceLeDiff, h1, hx, wrap_succ hlt (by omega)]
      refine bq_mk (fun h => ?_) (fun h => ?_) <;> simp only [go_sem, Nat.reduceLT, Nat.reduceAdd, Nat.reduceSub, Nat.reduceEqDiff, Nat.reduceLeDiff, h1, hx, wrap_succ hlt (by omega)]
      · exact ⟨_, rfl⟩
      · exact ⟨_, by omega, _, j + 1, hlt, rfl, rfl⟩
    · have h1 : ¬ ((j : Int) < (l.length : Int)) := by omega
      simp only [go_sem, Nat.reduceLT, Nat.reduceAdd, Nat.reduceSub, Nat.reduceEqDiff, Nat.reduceLeDiff, h1]
      exact ⟨_, rfl⟩
theorem szEntry_ok (n : Nat) (hn : Big + 3 ≤ n) (x : TEntry) (hx : x.ok) : ∃ g : Int → Int, ∀ left, pcall env n 54 [.c .agg (x.pv.map argC'), pvSV (.i .i64 left)] [] = some ⟨pvSV (.i .i64 (g left)), []⟩ := by
  refine skolem_int fun left => ?_
  obtain ⟨m, rfl⟩ := ex_pred hn
  obtain ⟨g0, c0⟩ := szByteS_ok m (by omega) x.Data hx.Data.1 hx.Data.2
  try simp only [go_sem] at c0
  obtain ⟨g1, c1⟩ := szAttrS_ok m (by omega) x.Attrs hx.Attrs.1 hx.Attrs.2
  try simp only [go_sem] at c1
  refine wq_int (wq_pcall (fn := Tryd.f54) rfl rfl rfl (Nat.le_of_ble_eq_true rfl) ?_)
  unfold Tryd.f54
  simp only [go_sem, Nat.reduceLT, Nat.reduceAdd, Nat.reduceSub, Nat.reduceEqDiff, Nat.reduceLeDiff, c0, c1]
  repeat' (first | exact ⟨_, rfl⟩ | (refine bq_mk (fun h => ?_) (fun h => ?_) <;> simp only [go_sem, Nat.reduceLT, Nat.reduceAdd, Nat.reduceSub, Nat.reduceEqDiff, Nat.reduceLeDiff, c0, c1]))
theorem szEntryS_ok (n : Nat) (hn : Big + 4 ≤ n) (l : List TEntry) (ho : ∀ y ∈ l, TEntry.ok y) (hl : l.length ≤ Bd) : ∃ g : Int → Int, ∀ left, pcall env n 20 [.c .one [.sh true (.s 5 (l.map TEntry.pv))], pvSV (.i .i64 left)] [] = some ⟨pvSV (.i .i64 (g left)), []⟩ := by
  refine skolem_int fun left => ?_
  obtain ⟨m, rfl⟩ := ex_pred hn
  have hB := big_bd
  have hb : Bd = 1048576 := rfl
  refine wq_int (wq_pcall (fn := Tryd.f20) rfl rfl rfl (Nat.le_of_ble_eq_true rfl) ?_)
  unfold Tryd.f20
  simp only [go_sem, Nat.reduceLT, Nat.reduceAdd, Nat.reduceSub, Nat.reduceEqDiff, Nat.reduceLeDiff]
  refine bq_mk (fun h => ?_) (fun h => ?_) <;> simp only [go_sem, Nat.reduceLT, Nat.reduceAdd, Nat.reduceSub, Nat.reduceEqDiff, Nat.reduceLeDiff]
  · exact ⟨_, rfl⟩
  refine wq_loop_at (fun k σ => ∃ v, ∃ j : Nat, j ≤ l.length ∧ k = l.length - j ∧ σ = slots 27 [(0, .c .one [.sh true (.s 5 (l.map TEntry.pv))]), (1, .c .one [.sh false (.i .i64 v)]), (5, .c .one [.sh false (.i .i64 (j : Nat))])]) l.length (by omega) ?_ ?_
  · simp only [go_sem, Nat.reduceLT, Nat.reduceAdd, Nat.reduceSub, Nat.reduceEqDiff, Nat.reduceLeDiff]
    exact ⟨_, 0, Nat.zero_le _, rfl, rfl⟩
  · rintro k σ ⟨v, j, hj, rfl, rfl⟩
    by_cases hlt : j < l.length
    · have h1 : ((j : Int) < (l.length : Int)) := by omega
      obtain ⟨g, hv⟩ := szEntry_ok m (by omega) l[j] (ho _ (List.getElem_mem hlt))
      have hx : l[j]? = some l[j] := List.getElem?_eq_getElem hlt
      generalize l[j] = x at hv hx
      try simp only [go_sem] at hv
      simp only [go_sem, Nat.reduceLT, Nat.reduceAdd, Nat.reduceSub, Nat.reduceEqDiff, Nat.reduceLeDiff, h1, hx, wrap_succ hlt (by omega), hv]
      refine bq_mk (fun h => ?_) (fun h => ?_) <;> simp only [go_sem, Nat.reduceLT, Nat.reduceAdd, Nat.reduceSub, Nat.reduceEqDiff, Nat.reduceLeDiff, h1, hx, wrap_succ hlt (by omega), hv]
      · exact ⟨_, rfl⟩
      · exact ⟨_, by omega, _, j + 1, hlt, rfl, rfl⟩
    · have h1 : ¬ ((j : Int) < (l.length : Int)) := by omega
      simp only [go_sem, Nat.reduceLT, Nat.reduceAdd, Nat.reduceSub, Nat.reduceEqDiff, Nat.reduceLeDiff, h1]
      exact ⟨_, rfl⟩
theorem szDelta_ok (n : Nat) (hn : Big + 5 ≤ n) (x : TDelta) (hx : x.ok) : ∃ g : Int → Int, ∀ left, pcall env n 5 [.c .agg (x.pv.map argC'), pvSV (.i .i64 left)] [] = some ⟨pvSV (.i .i64 (g left)), []⟩ := by
  refine skolem_int fun left => ?_
  obtain ⟨m, rfl⟩ := ex_pred hn
  obtain ⟨g0, c0⟩ := szAttrS_ok m (by omega) x.Attrs hx.Attrs.1 hx.Attrs.2
  try simp only [go_sem] at c0
  obtain ⟨g1, c1⟩ := szStringS_ok m (by omega) x.Gone hx.Gone.1 hx.Gone.2
  try simp only [go_sem] at c1
  obtain ⟨g2, c2⟩ := szEntryS_ok m (by omega) x.Fresh hx.Fresh.1 hx.Fresh.2
  try simp only [go_sem] at c2
  refine wq_int (wq_pcall (fn := Tryd.f5) rfl rfl rfl (Nat.le_of_ble_eq_true rfl) ?_)
  unfold Tryd.f5
  simp only [go_sem, Nat.reduceLT, Nat.reduceAdd, Nat.reduceSub, Nat.reduceEqDiff, Nat.reduceLeDiff, c0, c1, c2]
  repeat' (first | exact ⟨_, rfl⟩ | (refine bq_mk (fun h => ?_) (fun h => ?_) <;> simp only [go_sem, Nat.reduceLT, Nat.reduceAdd, Nat.reduceSub, Nat.reduceEqDiff, Nat.reduceLeDiff, c0, c1, c2]))
theorem toAttr_ok (n : Nat) (hn : Big + 1 ≤ n) (x : TAttr) (hx : x.ok) : pcall env n 58 [.c .agg (x.pv.map argC')] [] = some ⟨.c .agg (x.pv.map frC), []⟩ := by
  obtain ⟨m, rfl⟩ := ex_pred hn
  refine wq_eq (wq_pcall (fn := Tryd.f58) rfl rfl rfl (Nat.le_of_ble_eq_true rfl) ?_)
  unfold Tryd.f58
  simp only [go_sem, Nat.reduceLT, Nat.reduceAdd, Nat.reduceSub, Nat.reduceEqDiff, Nat.reduceLeDiff]
theorem toAttrS_ok (n : Nat) (hn : Big + 2 ≤ n) (l : List TAttr) (ho : ∀ y ∈ l, TAttr.ok y) (hl : l.length ≤ Bd) : pcall env n 26 [.c .one [.sh true (.s 2 (l.map TAttr.pv))]] [] = some ⟨.c .one [.ow false 2 (l.map TAttr.pv)], []⟩ := by
  obtain ⟨m, rfl⟩ := ex_pred hn
  have hB := big_bd
  have hb : Bd = 1048576 := rfl
  refine wq_eq (wq_pcall (fn := Tryd.f26) rfl rfl rfl (Nat.le_of_ble_eq_true rfl) ?_)
  unfold Tryd.f26
  simp only [go_sem, Nat.reduceLT, Nat.reduceAdd, Nat.reduceSub, Nat.reduceEqDiff, Nat.reduceLeDiff]
  refine bq_pos (by unfold LIM; omega) ?_
  simp only [go_sem, Nat.reduceLT, Nat.reduceAdd, Nat.reduceSub, Nat.reduceEqDiff, Nat.reduceLeDiff]
  refine wq_loop_at (fun k σ => ∃ j : Nat, j ≤ l.length ∧ k = l.length - j ∧ σ = slots 23 [(0, .c .one [.sh true (.s 2 (l.map TAttr.pv))]), (3, .c .one [.ow false 2 (filling TAttr.pv l [.t ⟨#[]⟩, .t ⟨#[]⟩] j)]), (4, .c .one [.sh false (.i .i64 (j : Nat))])]) l.length (by omega) ?_ ?_
  · simp only [go_sem, Nat.reduceLT, Nat.reduceAdd, Nat.reduceSub, Nat.reduceEqDiff, Nat.reduceLeDiff, fill_zero (pv := TAttr.pv)]
    exact ⟨0, Nat.zero_le _, rfl, rfl⟩
  · rintro k σ ⟨j, hj, rfl, rfl⟩
    by_cases hlt : j < l.length
    · have h1 : ((j : Int) < (l.length : Int)) := by omega
      have hv := toAttr_ok m (by omega) l[j] (ho _ (List.getElem_mem hlt))
      have hx : l[j]? = some l[j] := List.getElem?_eq_getElem hlt
      generalize l[j] = x at hv hx
      try simp only [go_sem] at hv
      have hs := fill_set (pv := TAttr.pv) (z := [.t ⟨#[]⟩, .t ⟨#[]⟩]) hx
      simp only [go_sem] at hs
      simp only [go_sem, Nat.reduceLT, Nat.reduceAdd, Nat.reduceSub, Nat.reduceEqDiff, Nat.reduceLeDiff, h1, hx, wrap_succ hlt (by omega), hv, fill_get hlt, fill_length hj, hs]
      exact ⟨_, by omega, j + 1, hlt, rfl, rfl⟩
    · have h1 : ¬ ((j : Int) < (l.length : Int)) := by omega
      obtain rfl : j = l.length := by omega
      simp only [go_sem, Nat.reduceLT, Nat.reduceAdd, Nat.reduceSub, Nat.reduceEqDiff, Nat.reduceLeDiff, h1, fill_end]
theorem toByteS_ok (n : Nat) (hn : Big + 1 ≤ n) (l : List UInt8) (ho : ∀ y ∈ l, okB y) (hl : l.length ≤ Bd) : pcall env n 15 [.c .one [.sh true (.s 1 (l.map bpv))]] [] = some ⟨.c .one [.ow false 1 (l.map bpv)], []⟩ := by
  obtain ⟨m, rfl⟩ := ex_pred hn
  have hB := big_bd
  have hb : Bd = 1048576 := rfl
  refine wq_eq (wq_pcall (fn := Tryd.f15) rfl rfl rfl (Nat.le_of_ble_eq_true rfl) ?_)
  unfold Tryd.f15
  simp only [go_sem, Nat.reduceLT, Nat.reduceAdd, Nat.reduceSub, Nat.reduceEqDiff, Nat.reduceLeDiff]
  refine bq_pos (by unfold LIM; omega) ?_
  simp only [go_sem, Nat.reduceLT, Nat.reduceAdd, Nat.reduceSub, Nat.reduceEqDiff, Nat.reduceLeDiff]
  refine wq_loop_at (fun k σ => ∃ j : Nat, j ≤ l.length ∧ k = l.length - j ∧ σ = slots 22 [(0, .c .one [.sh true (.s 1 (l.map bpv))]), (3, .c .one [.ow false 1 (filling bpv l [.i .u8 0] j)]), (4, .c .one [.sh false (.i .i64 (j : Nat))])]) l.length (by omega) ?_ ?_
  · simp only [go_sem, Nat.reduceLT, Nat.reduceAdd, Nat.reduceSub, Nat.reduceEqDiff, Nat.reduceLeDiff, fill_zero (pv := bpv)]
    exact ⟨0, Nat.zero_le _, rfl, rfl⟩
  · rintro k σ ⟨j, hj, rfl, rfl⟩
    by_cases hlt : j < l.length
    · have h1 : ((j : Int) < (l.length : Int)) := by omega
      have hx : l[j]? = some l[j] := List.getElem?_eq_getElem hlt
      generalize l[j] = x at hx
      have hs := fill_set (pv := bpv) (z := [.i .u8 0]) hx
      simp only [go_sem] at hs
      simp only [go_sem, Nat.reduceLT, Nat.reduceAdd, Nat.reduceSub, Nat.reduceEqDiff, Nat.reduceLeDiff, h1, hx, wrap_succ hlt (by omega), fill_get hlt, fill_length hj, hs]
      exact ⟨_, by omega, j + 1, hlt, rfl, rfl⟩
    · have h1 : ¬ ((j : Int) < (l.length : Int)) := by omega
      obtain rfl : j = l.length := by omega
      simp only [go_sem, Nat.reduceLT, Nat.reduceAdd, Nat.reduceSub, Nat.reduceEqDiff, Nat.reduceLeDiff, h1, fill_end]
theorem toStringS_ok (n : Nat) (hn : Big + 1 ≤ n) (l : List ByteArray) (ho : ∀ y ∈ l, okS y) (hl : l.length ≤ Bd) : pcall env n 27 [.c .one [.sh true (.s 1 (l.map spv))]] [] = some ⟨.c .one [.ow false 1 (l.map spv)], []⟩ := by
  obtain ⟨m, rfl⟩ := ex_pred hn
  have hB := big_bd
  have hb : Bd = 1048576 := rfl
  refine wq_eq (wq_pcall (fn := Tryd.f27) rfl rfl rfl (Nat.le_of_ble_eq_true rfl) ?_)
  unfold Tryd.f27
  simp only [go_sem, Nat.reduceLT, Nat.reduceAdd, Nat.reduceSub, Nat.reduceEqDiff, Nat.reduceLeDiff]
  refine bq_pos (by unfold LIM; omega) ?_
  simp only [go_sem, Nat.reduceLT, Nat.reduceAdd, Nat.reduceSub, Nat.reduceEqDiff, Nat.reduceLeDiff]
  refine wq_loop_at (fun k σ => ∃ j : Nat, j ≤ l.length ∧ k = l.length - j ∧ σ = slots 22 [(0, .c .one [.sh true (.s 1 (l.map spv))]), (3, .c .one [.ow false 1 (filling spv l [.t ⟨#[]⟩] j)]), (4, .c .one [.sh false (.i .i64 (j : Nat))])]) l.length (by omega) ?_ ?_
  · simp only [go_sem, Nat.reduceLT, Nat.reduceAdd, Nat.reduceSub, Nat.reduceEqDiff, Nat.reduceLeDiff, fill_zero (pv := spv)]
    exact ⟨0, Nat.zero_le _, rfl, rfl⟩
  · rintro k σ ⟨j, hj, rfl, rfl⟩
    by_cases hlt : j < l.length
    · have h1 : ((j : Int) < (l.length : Int)) := by omega
      have hx : l[j]? = some l[j] := List.getElem?_eq_getElem hlt
      generalize l[j] = x at hx
      have hs := fill_set (pv := spv) (z := [.t ⟨#[]⟩]) hx
      simp only [go_sem] at hs
      simp only [go_sem, Nat.reduceLT, Nat.reduceAdd, Nat.reduceSub, Nat.reduceEqDiff, Nat.reduceLeDiff, h1, hx, wrap_succ hlt (by omega), fill_get hlt, fill_length hj, hs]
      exact ⟨_, by omega, j + 1, hlt, rfl, rfl⟩
    · have h1 : ¬ ((j : Int) < (l.length : Int)) := by omega
      obtain rfl : j = l.length := by omega
      simp only [go_sem, Nat.reduceLT, Nat.reduceAdd, Nat.reduceSub, Nat.reduceEqDiff, Nat.reduceLeDiff, h1, fill_end]
theorem toEntry_ok (n : Nat) (hn : Big + 3 ≤ n) (x : TEntry) (hx : x.ok) : pcall env n 59 [.c .agg (x.pv.map argC')] [] = some ⟨.c .agg (x.ov.map ovC), []⟩ := by
  obtain ⟨m, rfl⟩ := ex_pred hn
  have c0 := toByteS_ok m (by omega) x.Data hx.Data.1 hx.Data.2
  try simp only [go_sem] at c0
  have c1 := toAttrS_ok m (by omega) x.Attrs hx.Attrs.1 hx.Attrs.2
  try simp only [go_sem] at c1
  refine wq_eq (wq_pcall (fn := Tryd.f59) rfl rfl rfl (Nat.le_of_ble_eq_true rfl) ?_)
  unfold Tryd.f59
  simp only [go_sem, Nat.reduceLT, Nat.reduceAdd, Nat.reduceSub, Nat.reduceEqDiff, Nat.reduceLeDiff, c0, c1]
theorem toEntryS_ok (n : Nat) (hn : Big + 4 ≤ n) (l : List TEntry) (ho : ∀ y ∈ l, TEntry.ok y) (hl : l.length ≤ Bd) : pcall env n 28 [.c .one [.sh true (.s 5 (l.map TEntry.pv))]] [] = some ⟨.c .one [.ow false 5 (l.map TEntry.ov)], []⟩ := by
  obtain ⟨m, rfl⟩ := ex_pred hn
  have hB := big_bd
  have hb : Bd = 1048576 := rfl
  refine wq_eq (wq_pcall (fn := Tryd.f28) rfl rfl rfl (Nat.le_of_ble_eq_true rfl) ?_)
  unfold Tryd.f28
  simp only [go_sem, Nat.reduceLT, Nat.reduceAdd, Nat.reduceSub, Nat.reduceEqDiff, Nat.reduceLeDiff]
  refine bq_pos (by unfold LIM; omega) ?_
  simp only [go_sem, Nat.reduceLT, Nat.reduceAdd, Nat.reduceSub, Nat.reduceEqDiff, Nat.reduceLeDiff]
  refine wq_loop_at (fun k σ => ∃ j : Nat, j ≤ l.length ∧ k = l.length - j ∧ σ = slots 23 [(0, .c .one [.sh true (.s 5 (l.map TEntry.pv))]), (3, .c .one [.ow false 5 (filling TEntry.ov l [.t ⟨#[]⟩, .i .i64 0, .o 1 [], .o 2 [], .t ⟨#[]⟩] j)]), (4, .c .one [.sh false (.i .i64 (j : Nat))])]) l.length (by omega) ?_ ?_
  · simp only [go_sem, Nat.reduceLT, Nat.reduceAdd, Nat.reduceSub, Nat.reduceEqDiff, Nat.reduceLeDiff, fill_zero (pv := TEntry.ov)]
    exact ⟨0, Nat.zero_le _, rfl, rfl⟩
  · rintro k σ ⟨j, hj, rfl, rfl⟩
    by_cases hlt : j < l.length
    · have h1 : ((j : Int) < (l.length : Int)) := by omega
      have hv := toEntry_ok m (by omega) l[j] (ho _ (List.getElem_mem hlt))
      have hx : l[j]? = some l[j] := List.getElem?_eq_getElem hlt
      generalize l[j] = x at hv hx
      try simp only [go_sem] at hv
      have hs := fill_set (pv := TEntry.ov) (z := [.t ⟨#[]⟩, .i .i64 0, .o 1 [], .o 2 [], .t ⟨#[]⟩]) hx
      simp only [go_sem] at hs
      simp only [go_sem, Nat.reduceLT, Nat.reduceAdd, Nat.reduceSub, Nat.reduceEqDiff, Nat.reduceLeDiff, h1, hx, wrap_succ hlt (by omega), hv, fill_get hlt, fill_length hj, hs]
      exact ⟨_, by omega, j + 1, hlt, rfl, rfl⟩
    · have h1 : ¬ ((j : Int) < (l.length : Int)) := by omega
      obtain rfl : j = l.length := by omega
      simp only [go_sem, Nat.reduceLT, Nat.reduceAdd, Nat.reduceSub, Nat.reduceEqDiff, Nat.reduceLeDiff, h1, fill_end]
theorem toDelta_ok (n : Nat) (hn : Big + 5 ≤ n) (x : TDelta) (hx : x.ok) : pcall env n 7 [.c .agg (x.pv.map argC')] [] = some ⟨.c .agg (x.ov.map ovC), []⟩ := by
  obtain ⟨m, rfl⟩ := ex_pred hn
  have c0 := toAttrS_ok m (by omega) x.Attrs hx.Attrs.1 hx.Attrs.2
  try simp only [go_sem] at c0
  have c1 := toStringS_ok m (by omega) x.Gone hx.Gone.1 hx.Gone.2
  try simp only [go_sem] at c1
  have c2 := toEntryS_ok m (by omega) x.Fresh hx.Fresh.1 hx.Fresh.2
  try simp only [go_sem] at c2
  refine wq_eq (wq_pcall (fn := Tryd.f7) rfl rfl rfl (Nat.le_of_ble_eq_true rfl) ?_)
  unfold Tryd.f7
  simp only [go_sem, Nat.reduceLT, Nat.reduceAdd, Nat.reduceSub, Nat.reduceEqDiff, Nat.reduceLeDiff, c0, c1, c2]
end Go.Proofs.YtblelojdboefjaaDoor.R
