/- What the laws' helpers answer: how much there is, copies, likeness. Printed by genfam.py. -/
import Derived.Test.YtblelojdboefjaaGreatV
import Derived.Test.YtblelojdboefjaaGreatT
import Derived.KernelRfl
set_option maxRecDepth 100000
set_option linter.unusedVariables false
set_option linter.unusedSimpArgs false
namespace Go.Proofs.YtblelojdboefjaaGreat.R
open Go
attribute [go_sem] TFs.pv TTable.pv TImage.pv TChip.pv TDev.pv TLog.pv TEng.pv TTab.pv TVol.pv TMap.pv TRow.pv TFault.pv TBlock.pv TPlace.pv TInode.pv TPage.pv TEnt.pv TAttr.pv
theorem eqAttr_ok (n : Nat) (hn : Big + 1 ≤ n) (x : TAttr) (hx : x.ok) : pcall env n 150 [.c .agg (x.pv.map argC'), .c .agg (x.pv.map argC')] [] = some ⟨pvSV (.b true), []⟩ := by
  obtain ⟨m, rfl⟩ := ex_pred hn
  refine wq_eq (wq_pcall (fn := Tryz.f150) rfl rfl rfl (Nat.le_of_ble_eq_true rfl) ?_)
  unfold Tryz.f150
  simp only [go_sem, Nat.reduceLT, Nat.reduceAdd, Nat.reduceSub, Nat.reduceEqDiff, Nat.reduceLeDiff]
theorem eqAttrS_ok (n : Nat) (hn : Big + 2 ≤ n) (l : List TAttr) (ho : ∀ y ∈ l, TAttr.ok y) (hl : l.length ≤ Bd) : pcall env n 143 [.c .one [.sh true (.s 2 (l.map TAttr.pv))], .c .one [.sh true (.s 2 (l.map TAttr.pv))]] [] = some ⟨pvSV (.b true), []⟩ := by
  obtain ⟨m, rfl⟩ := ex_pred hn
  have hB := big_bd
  have hb : Bd = 1048576 := rfl
  refine wq_eq (wq_pcall (fn := Tryz.f143) rfl rfl rfl (Nat.le_of_ble_eq_true rfl) ?_)
  unfold Tryz.f143
  simp only [go_sem, Nat.reduceLT, Nat.reduceAdd, Nat.reduceSub, Nat.reduceEqDiff, Nat.reduceLeDiff]
  refine wq_loop_at (fun k σ => ∃ j : Nat, j ≤ l.length ∧ k = l.length - j ∧ σ = slots 27 [(0, .c .one [.sh true (.s 2 (l.map TAttr.pv))]), (1, .c .one [.sh true (.s 2 (l.map TAttr.pv))]), (5, .c .one [.sh false (.i .i64 (j : Nat))])]) l.length (by omega) ?_ ?_
  · simp only [go_sem, Nat.reduceLT, Nat.reduceAdd, Nat.reduceSub, Nat.reduceEqDiff, Nat.reduceLeDiff]
    exact ⟨0, Nat.zero_le _, rfl, rfl⟩
  · rintro k σ ⟨j, hj, rfl, rfl⟩
    by_cases hlt : j < l.length
    · have h1 : ((j : Int) < (l.length : Int)) := by omega
      have hv := eqAttr_ok m (by omega) l[j] (ho _ (List.getElem_mem hlt))
      have hx : l[j]? = some l[j] := List.getElem?_eq_getElem hlt
      generalize l[j] = x at hv hx
      try simp only [go_sem] at hv
      simp only [go_sem, Nat.reduceLT, Nat.reduceAdd, Nat.reduceSub, Nat.reduceEqDiff, Nat.reduceLeDiff, h1, hx, wrap_succ hlt (by omega), hv]
      first | exact ⟨_, by omega, j + 1, hlt, rfl, rfl⟩ | exact chk (by kernel_rfl) ⟨_, by omega, j + 1, hlt, rfl, rfl⟩
    · have h1 : ¬ ((j : Int) < (l.length : Int)) := by omega
      simp only [go_sem, Nat.reduceLT, Nat.reduceAdd, Nat.reduceSub, Nat.reduceEqDiff, Nat.reduceLeDiff, h1]
theorem eqByteS_ok (n : Nat) (hn : Big + 1 ≤ n) (l : List UInt8) (ho : ∀ y ∈ l, okB y) (hl : l.length ≤ Bd) : pcall env n 141 [.c .one [.sh true (.s 1 (l.map bpv))], .c .one [.sh true (.s 1 (l.map bpv))]] [] = some ⟨pvSV (.b true), []⟩ := by
  obtain ⟨m, rfl⟩ := ex_pred hn
  have hB := big_bd
  have hb : Bd = 1048576 := rfl
  refine wq_eq (wq_pcall (fn := Tryz.f141) rfl rfl rfl (Nat.le_of_ble_eq_true rfl) ?_)
  unfold Tryz.f141
  simp only [go_sem, Nat.reduceLT, Nat.reduceAdd, Nat.reduceSub, Nat.reduceEqDiff, Nat.reduceLeDiff]
  refine wq_loop_at (fun k σ => ∃ j : Nat, j ≤ l.length ∧ k = l.length - j ∧ σ = slots 26 [(0, .c .one [.sh true (.s 1 (l.map bpv))]), (1, .c .one [.sh true (.s 1 (l.map bpv))]), (5, .c .one [.sh false (.i .i64 (j : Nat))])]) l.length (by omega) ?_ ?_
  · simp only [go_sem, Nat.reduceLT, Nat.reduceAdd, Nat.reduceSub, Nat.reduceEqDiff, Nat.reduceLeDiff]
    exact ⟨0, Nat.zero_le _, rfl, rfl⟩
  · rintro k σ ⟨j, hj, rfl, rfl⟩
    by_cases hlt : j < l.length
    · have h1 : ((j : Int) < (l.length : Int)) := by omega
      have hx : l[j]? = some l[j] := List.getElem?_eq_getElem hlt
      generalize l[j] = x at hx
      simp only [go_sem, Nat.reduceLT, Nat.reduceAdd, Nat.reduceSub, Nat.reduceEqDiff, Nat.reduceLeDiff, h1, hx, wrap_succ hlt (by omega)]
      first | exact ⟨_, by omega, j + 1, hlt, rfl, rfl⟩ | exact chk (by kernel_rfl) ⟨_, by omega, j + 1, hlt, rfl, rfl⟩
    · have h1 : ¬ ((j : Int) < (l.length : Int)) := by omega
      simp only [go_sem, Nat.reduceLT, Nat.reduceAdd, Nat.reduceSub, Nat.reduceEqDiff, Nat.reduceLeDiff, h1]
theorem eqPage_ok (n : Nat) (hn : Big + 2 ≤ n) (x : TPage) (hx : x.ok) : pcall env n 144 [.c .agg (x.pv.map argC'), .c .agg (x.pv.map argC')] [] = some ⟨pvSV (.b true), []⟩ := by
  obtain ⟨m, rfl⟩ := ex_pred hn
  have c0 := eqByteS_ok m (by omega) x.B hx.B.1 hx.B.2
  try simp only [go_sem] at c0
  refine wq_eq (wq_pcall (fn := Tryz.f144) rfl rfl rfl (Nat.le_of_ble_eq_true rfl) ?_)
  unfold Tryz.f144
  simp only [go_sem, Nat.reduceLT, Nat.reduceAdd, Nat.reduceSub, Nat.reduceEqDiff, Nat.reduceLeDiff, c0]
theorem eqPageS_ok (n : Nat) (hn : Big + 3 ≤ n) (l : List TPage) (ho : ∀ y ∈ l, TPage.ok y) (hl : l.length ≤ Bd) : pcall env n 132 [.c .one [.sh true (.s 2 (l.map TPage.pv))], .c .one [.sh true (.s 2 (l.map TPage.pv))]] [] = some ⟨pvSV (.b true), []⟩ := by
  obtain ⟨m, rfl⟩ := ex_pred hn
  have hB := big_bd
  have hb : Bd = 1048576 := rfl
  refine wq_eq (wq_pcall (fn := Tryz.f132) rfl rfl rfl (Nat.le_of_ble_eq_true rfl) ?_)
  unfold Tryz.f132
  simp only [go_sem, Nat.reduceLT, Nat.reduceAdd, Nat.reduceSub, Nat.reduceEqDiff, Nat.reduceLeDiff]
  refine wq_loop_at (fun k σ => ∃ j : Nat, j ≤ l.length ∧ k = l.length - j ∧ σ = slots 27 [(0, .c .one [.sh true (.s 2 (l.map TPage.pv))]), (1, .c .one [.sh true (.s 2 (l.map TPage.pv))]), (5, .c .one [.sh false (.i .i64 (j : Nat))])]) l.length (by omega) ?_ ?_
  · simp only [go_sem, Nat.reduceLT, Nat.reduceAdd, Nat.reduceSub, Nat.reduceEqDiff, Nat.reduceLeDiff]
    exact ⟨0, Nat.zero_le _, rfl, rfl⟩
  · rintro k σ ⟨j, hj, rfl, rfl⟩
    by_cases hlt : j < l.length
    · have h1 : ((j : Int) < (l.length : Int)) := by omega
      have hv := eqPage_ok m (by omega) l[j] (ho _ (List.getElem_mem hlt))
      have hx : l[j]? = some l[j] := List.getElem?_eq_getElem hlt
      generalize l[j] = x at hv hx
      try simp only [go_sem] at hv
      simp only [go_sem, Nat.reduceLT, Nat.reduceAdd, Nat.reduceSub, Nat.reduceEqDiff, Nat.reduceLeDiff, h1, hx, wrap_succ hlt (by omega), hv]
      first | exact ⟨_, by omega, j + 1, hlt, rfl, rfl⟩ | exact chk (by kernel_rfl) ⟨_, by omega, j + 1, hlt, rfl, rfl⟩
    · have h1 : ¬ ((j : Int) < (l.length : Int)) := by omega
      simp only [go_sem, Nat.reduceLT, Nat.reduceAdd, Nat.reduceSub, Nat.reduceEqDiff, Nat.reduceLeDiff, h1]
theorem eqBlock_ok (n : Nat) (hn : Big + 4 ≤ n) (x : TBlock) (hx : x.ok) : pcall env n 124 [.c .agg (x.pv.map argC'), .c .agg (x.pv.map argC')] [] = some ⟨pvSV (.b true), []⟩ := by
  obtain ⟨m, rfl⟩ := ex_pred hn
  have c0 := eqPageS_ok m (by omega) x.Pages hx.Pages.1 hx.Pages.2
  try simp only [go_sem] at c0
  refine wq_eq (wq_pcall (fn := Tryz.f124) rfl rfl rfl (Nat.le_of_ble_eq_true rfl) ?_)
  unfold Tryz.f124
  simp only [go_sem, Nat.reduceLT, Nat.reduceAdd, Nat.reduceSub, Nat.reduceEqDiff, Nat.reduceLeDiff, c0]
theorem eqBlockS_ok (n : Nat) (hn : Big + 5 ≤ n) (l : List TBlock) (ho : ∀ y ∈ l, TBlock.ok y) (hl : l.length ≤ Bd) : pcall env n 106 [.c .one [.sh true (.s 3 (l.map TBlock.pv))], .c .one [.sh true (.s 3 (l.map TBlock.pv))]] [] = some ⟨pvSV (.b true), []⟩ := by
  obtain ⟨m, rfl⟩ := ex_pred hn
  have hB := big_bd
  have hb : Bd = 1048576 := rfl
  refine wq_eq (wq_pcall (fn := Tryz.f106) rfl rfl rfl (Nat.le_of_ble_eq_true rfl) ?_)
  unfold Tryz.f106
  simp only [go_sem, Nat.reduceLT, Nat.reduceAdd, Nat.reduceSub, Nat.reduceEqDiff, Nat.reduceLeDiff]
  refine wq_loop_at (fun k σ => ∃ j : Nat, j ≤ l.length ∧ k = l.length - j ∧ σ = slots 27 [(0, .c .one [.sh true (.s 3 (l.map TBlock.pv))]), (1, .c .one [.sh true (.s 3 (l.map TBlock.pv))]), (5, .c .one [.sh false (.i .i64 (j : Nat))])]) l.length (by omega) ?_ ?_
  · simp only [go_sem, Nat.reduceLT, Nat.reduceAdd, Nat.reduceSub, Nat.reduceEqDiff, Nat.reduceLeDiff]
    exact ⟨0, Nat.zero_le _, rfl, rfl⟩
  · rintro k σ ⟨j, hj, rfl, rfl⟩
    by_cases hlt : j < l.length
    · have h1 : ((j : Int) < (l.length : Int)) := by omega
      have hv := eqBlock_ok m (by omega) l[j] (ho _ (List.getElem_mem hlt))
      have hx : l[j]? = some l[j] := List.getElem?_eq_getElem hlt
      generalize l[j] = x at hv hx
      try simp only [go_sem] at hv
      simp only [go_sem, Nat.reduceLT, Nat.reduceAdd, Nat.reduceSub, Nat.reduceEqDiff, Nat.reduceLeDiff, h1, hx, wrap_succ hlt (by omega), hv]
      first | exact ⟨_, by omega, j + 1, hlt, rfl, rfl⟩ | exact chk (by kernel_rfl) ⟨_, by omega, j + 1, hlt, rfl, rfl⟩
    · have h1 : ¬ ((j : Int) < (l.length : Int)) := by omega
      simp only [go_sem, Nat.reduceLT, Nat.reduceAdd, Nat.reduceSub, Nat.reduceEqDiff, Nat.reduceLeDiff, h1]
theorem eqChip_ok (n : Nat) (hn : Big + 6 ≤ n) (x : TChip) (hx : x.ok) : pcall env n 69 [.c .agg (x.pv.map argC'), .c .agg (x.pv.map argC')] [] = some ⟨pvSV (.b true), []⟩ := by
  obtain ⟨m, rfl⟩ := ex_pred hn
  have c0 := eqBlockS_ok m (by omega) x.Blocks hx.Blocks.1 hx.Blocks.2
  try simp only [go_sem] at c0
  refine wq_eq (wq_pcall (fn := Tryz.f69) rfl rfl rfl (Nat.le_of_ble_eq_true rfl) ?_)
  unfold Tryz.f69
  simp only [go_sem, Nat.reduceLT, Nat.reduceAdd, Nat.reduceSub, Nat.reduceEqDiff, Nat.reduceLeDiff, c0]
theorem eqFault_ok (n : Nat) (hn : Big + 1 ≤ n) (x : TFault) (hx : x.ok) : pcall env n 107 [.c .agg (x.pv.map argC'), .c .agg (x.pv.map argC')] [] = some ⟨pvSV (.b true), []⟩ := by
  obtain ⟨m, rfl⟩ := ex_pred hn
  refine wq_eq (wq_pcall (fn := Tryz.f107) rfl rfl rfl (Nat.le_of_ble_eq_true rfl) ?_)
  unfold Tryz.f107
  simp only [go_sem, Nat.reduceLT, Nat.reduceAdd, Nat.reduceSub, Nat.reduceEqDiff, Nat.reduceLeDiff]
theorem eqFaultS_ok (n : Nat) (hn : Big + 2 ≤ n) (l : List TFault) (ho : ∀ y ∈ l, TFault.ok y) (hl : l.length ≤ Bd) : pcall env n 70 [.c .one [.sh true (.s 3 (l.map TFault.pv))], .c .one [.sh true (.s 3 (l.map TFault.pv))]] [] = some ⟨pvSV (.b true), []⟩ := by
  obtain ⟨m, rfl⟩ := ex_pred hn
  have hB := big_bd
  have hb : Bd = 1048576 := rfl
  refine wq_eq (wq_pcall (fn := Tryz.f70) rfl rfl rfl (Nat.le_of_ble_eq_true rfl) ?_)
  unfold Tryz.f70
  simp only [go_sem, Nat.reduceLT, Nat.reduceAdd, Nat.reduceSub, Nat.reduceEqDiff, Nat.reduceLeDiff]
  refine wq_loop_at (fun k σ => ∃ j : Nat, j ≤ l.length ∧ k = l.length - j ∧ σ = slots 27 [(0, .c .one [.sh true (.s 3 (l.map TFault.pv))]), (1, .c .one [.sh true (.s 3 (l.map TFault.pv))]), (5, .c .one [.sh false (.i .i64 (j : Nat))])]) l.length (by omega) ?_ ?_
  · simp only [go_sem, Nat.reduceLT, Nat.reduceAdd, Nat.reduceSub, Nat.reduceEqDiff, Nat.reduceLeDiff]
    exact ⟨0, Nat.zero_le _, rfl, rfl⟩
  · rintro k σ ⟨j, hj, rfl, rfl⟩
    by_cases hlt : j < l.length
    · have h1 : ((j : Int) < (l.length : Int)) := by omega
      have hv := eqFault_ok m (by omega) l[j] (ho _ (List.getElem_mem hlt))
      have hx : l[j]? = some l[j] := List.getElem?_eq_getElem hlt
      generalize l[j] = x at hv hx
      try simp only [go_sem] at hv
      simp only [go_sem, Nat.reduceLT, Nat.reduceAdd, Nat.reduceSub, Nat.reduceEqDiff, Nat.reduceLeDiff, h1, hx, wrap_succ hlt (by omega), hv]
      first | exact ⟨_, by omega, j + 1, hlt, rfl, rfl⟩ | exact chk (by kernel_rfl) ⟨_, by omega, j + 1, hlt, rfl, rfl⟩
    · have h1 : ¬ ((j : Int) < (l.length : Int)) := by omega
      simp only [go_sem, Nat.reduceLT, Nat.reduceAdd, Nat.reduceSub, Nat.reduceEqDiff, Nat.reduceLeDiff, h1]
theorem eqDev_ok (n : Nat) (hn : Big + 7 ≤ n) (x : TDev) (hx : x.ok) : pcall env n 44 [.c .agg (x.pv.map argC'), .c .agg (x.pv.map argC')] [] = some ⟨pvSV (.b true), []⟩ := by
  obtain ⟨m, rfl⟩ := ex_pred hn
  have c0 := eqChip_ok m (by omega) x.C hx.C
  try simp only [go_sem] at c0
  have c1 := eqFaultS_ok m (by omega) x.Faults hx.Faults.1 hx.Faults.2
  try simp only [go_sem] at c1
  refine wq_eq (wq_pcall (fn := Tryz.f44) rfl rfl rfl (Nat.le_of_ble_eq_true rfl) ?_)
  unfold Tryz.f44
  simp only [go_sem, Nat.reduceLT, Nat.reduceAdd, Nat.reduceSub, Nat.reduceEqDiff, Nat.reduceLeDiff, c0, c1]
theorem eqEnt_ok (n : Nat) (hn : Big + 1 ≤ n) (x : TEnt) (hx : x.ok) : pcall env n 149 [.c .agg (x.pv.map argC'), .c .agg (x.pv.map argC')] [] = some ⟨pvSV (.b true), []⟩ := by
  obtain ⟨m, rfl⟩ := ex_pred hn
  refine wq_eq (wq_pcall (fn := Tryz.f149) rfl rfl rfl (Nat.le_of_ble_eq_true rfl) ?_)
  unfold Tryz.f149
  simp only [go_sem, Nat.reduceLT, Nat.reduceAdd, Nat.reduceSub, Nat.reduceEqDiff, Nat.reduceLeDiff]
theorem eqEntS_ok (n : Nat) (hn : Big + 2 ≤ n) (l : List TEnt) (ho : ∀ y ∈ l, TEnt.ok y) (hl : l.length ≤ Bd) : pcall env n 142 [.c .one [.sh true (.s 2 (l.map TEnt.pv))], .c .one [.sh true (.s 2 (l.map TEnt.pv))]] [] = some ⟨pvSV (.b true), []⟩ := by
  obtain ⟨m, rfl⟩ := ex_pred hn
  have hB := big_bd
  have hb : Bd = 1048576 := rfl
  refine wq_eq (wq_pcall (fn := Tryz.f142) rfl rfl rfl (Nat.le_of_ble_eq_true rfl) ?_)
  unfold Tryz.f142
  simp only [go_sem, Nat.reduceLT, Nat.reduceAdd, Nat.reduceSub, Nat.reduceEqDiff, Nat.reduceLeDiff]
  refine wq_loop_at (fun k σ => ∃ j : Nat, j ≤ l.length ∧ k = l.length - j ∧ σ = slots 27 [(0, .c .one [.sh true (.s 2 (l.map TEnt.pv))]), (1, .c .one [.sh true (.s 2 (l.map TEnt.pv))]), (5, .c .one [.sh false (.i .i64 (j : Nat))])]) l.length (by omega) ?_ ?_
  · simp only [go_sem, Nat.reduceLT, Nat.reduceAdd, Nat.reduceSub, Nat.reduceEqDiff, Nat.reduceLeDiff]
    exact ⟨0, Nat.zero_le _, rfl, rfl⟩
  · rintro k σ ⟨j, hj, rfl, rfl⟩
    by_cases hlt : j < l.length
    · have h1 : ((j : Int) < (l.length : Int)) := by omega
      have hv := eqEnt_ok m (by omega) l[j] (ho _ (List.getElem_mem hlt))
      have hx : l[j]? = some l[j] := List.getElem?_eq_getElem hlt
      generalize l[j] = x at hv hx
      try simp only [go_sem] at hv
      simp only [go_sem, Nat.reduceLT, Nat.reduceAdd, Nat.reduceSub, Nat.reduceEqDiff, Nat.reduceLeDiff, h1, hx, wrap_succ hlt (by omega), hv]
      first | exact ⟨_, by omega, j + 1, hlt, rfl, rfl⟩ | exact chk (by kernel_rfl) ⟨_, by omega, j + 1, hlt, rfl, rfl⟩
    · have h1 : ¬ ((j : Int) < (l.length : Int)) := by omega
      simp only [go_sem, Nat.reduceLT, Nat.reduceAdd, Nat.reduceSub, Nat.reduceEqDiff, Nat.reduceLeDiff, h1]
theorem eqInode_ok (n : Nat) (hn : Big + 3 ≤ n) (x : TInode) (hx : x.ok) : pcall env n 131 [.c .agg (x.pv.map argC'), .c .agg (x.pv.map argC')] [] = some ⟨pvSV (.b true), []⟩ := by
  obtain ⟨m, rfl⟩ := ex_pred hn
  have c0 := eqByteS_ok m (by omega) x.Data hx.Data.1 hx.Data.2
  try simp only [go_sem] at c0
  have c1 := eqEntS_ok m (by omega) x.Ents hx.Ents.1 hx.Ents.2
  try simp only [go_sem] at c1
  have c2 := eqAttrS_ok m (by omega) x.Attrs hx.Attrs.1 hx.Attrs.2
  try simp only [go_sem] at c2
  refine wq_eq (wq_pcall (fn := Tryz.f131) rfl rfl rfl (Nat.le_of_ble_eq_true rfl) ?_)
  unfold Tryz.f131
  simp only [go_sem, Nat.reduceLT, Nat.reduceAdd, Nat.reduceSub, Nat.reduceEqDiff, Nat.reduceLeDiff, c0, c1, c2]
theorem eqInodeS_ok (n : Nat) (hn : Big + 4 ≤ n) (l : List TInode) (ho : ∀ y ∈ l, TInode.ok y) (hl : l.length ≤ Bd) : pcall env n 122 [.c .one [.sh true (.s 6 (l.map TInode.pv))], .c .one [.sh true (.s 6 (l.map TInode.pv))]] [] = some ⟨pvSV (.b true), []⟩ := by
  obtain ⟨m, rfl⟩ := ex_pred hn
  have hB := big_bd
  have hb : Bd = 1048576 := rfl
  refine wq_eq (wq_pcall (fn := Tryz.f122) rfl rfl rfl (Nat.le_of_ble_eq_true rfl) ?_)
  unfold Tryz.f122
  simp only [go_sem, Nat.reduceLT, Nat.reduceAdd, Nat.reduceSub, Nat.reduceEqDiff, Nat.reduceLeDiff]
  refine wq_loop_at (fun k σ => ∃ j : Nat, j ≤ l.length ∧ k = l.length - j ∧ σ = slots 27 [(0, .c .one [.sh true (.s 6 (l.map TInode.pv))]), (1, .c .one [.sh true (.s 6 (l.map TInode.pv))]), (5, .c .one [.sh false (.i .i64 (j : Nat))])]) l.length (by omega) ?_ ?_
  · simp only [go_sem, Nat.reduceLT, Nat.reduceAdd, Nat.reduceSub, Nat.reduceEqDiff, Nat.reduceLeDiff]
    exact ⟨0, Nat.zero_le _, rfl, rfl⟩
  · rintro k σ ⟨j, hj, rfl, rfl⟩
    by_cases hlt : j < l.length
    · have h1 : ((j : Int) < (l.length : Int)) := by omega
      have hv := eqInode_ok m (by omega) l[j] (ho _ (List.getElem_mem hlt))
      have hx : l[j]? = some l[j] := List.getElem?_eq_getElem hlt
      generalize l[j] = x at hv hx
      try simp only [go_sem] at hv
      simp only [go_sem, Nat.reduceLT, Nat.reduceAdd, Nat.reduceSub, Nat.reduceEqDiff, Nat.reduceLeDiff, h1, hx, wrap_succ hlt (by omega), hv]
      first | exact ⟨_, by omega, j + 1, hlt, rfl, rfl⟩ | exact chk (by kernel_rfl) ⟨_, by omega, j + 1, hlt, rfl, rfl⟩
    · have h1 : ¬ ((j : Int) < (l.length : Int)) := by omega
      simp only [go_sem, Nat.reduceLT, Nat.reduceAdd, Nat.reduceSub, Nat.reduceEqDiff, Nat.reduceLeDiff, h1]
theorem eqTab_ok (n : Nat) (hn : Big + 5 ≤ n) (x : TTab) (hx : x.ok) : pcall env n 103 [.c .agg (x.pv.map argC'), .c .agg (x.pv.map argC')] [] = some ⟨pvSV (.b true), []⟩ := by
  obtain ⟨m, rfl⟩ := ex_pred hn
  have c0 := eqInodeS_ok m (by omega) x.Inodes hx.Inodes.1 hx.Inodes.2
  try simp only [go_sem] at c0
  refine wq_eq (wq_pcall (fn := Tryz.f103) rfl rfl rfl (Nat.le_of_ble_eq_true rfl) ?_)
  unfold Tryz.f103
  simp only [go_sem, Nat.reduceLT, Nat.reduceAdd, Nat.reduceSub, Nat.reduceEqDiff, Nat.reduceLeDiff, c0]
theorem eqVol_ok (n : Nat) (hn : Big + 6 ≤ n) (x : TVol) (hx : x.ok) : pcall env n 66 [.c .agg (x.pv.map argC'), .c .agg (x.pv.map argC')] [] = some ⟨pvSV (.b true), []⟩ := by
  obtain ⟨m, rfl⟩ := ex_pred hn
  have c0 := eqTab_ok m (by omega) x.T hx.T
  try simp only [go_sem] at c0
  refine wq_eq (wq_pcall (fn := Tryz.f66) rfl rfl rfl (Nat.le_of_ble_eq_true rfl) ?_)
  unfold Tryz.f66
  simp only [go_sem, Nat.reduceLT, Nat.reduceAdd, Nat.reduceSub, Nat.reduceEqDiff, Nat.reduceLeDiff, c0]
theorem eqVolS_ok (n : Nat) (hn : Big + 7 ≤ n) (l : List TVol) (ho : ∀ y ∈ l, TVol.ok y) (hl : l.length ≤ Bd) : pcall env n 41 [.c .one [.sh true (.s 6 (l.map TVol.pv))], .c .one [.sh true (.s 6 (l.map TVol.pv))]] [] = some ⟨pvSV (.b true), []⟩ := by
  obtain ⟨m, rfl⟩ := ex_pred hn
  have hB := big_bd
  have hb : Bd = 1048576 := rfl
  refine wq_eq (wq_pcall (fn := Tryz.f41) rfl rfl rfl (Nat.le_of_ble_eq_true rfl) ?_)
  unfold Tryz.f41
  simp only [go_sem, Nat.reduceLT, Nat.reduceAdd, Nat.reduceSub, Nat.reduceEqDiff, Nat.reduceLeDiff]
  refine wq_loop_at (fun k σ => ∃ j : Nat, j ≤ l.length ∧ k = l.length - j ∧ σ = slots 27 [(0, .c .one [.sh true (.s 6 (l.map TVol.pv))]), (1, .c .one [.sh true (.s 6 (l.map TVol.pv))]), (5, .c .one [.sh false (.i .i64 (j : Nat))])]) l.length (by omega) ?_ ?_
  · simp only [go_sem, Nat.reduceLT, Nat.reduceAdd, Nat.reduceSub, Nat.reduceEqDiff, Nat.reduceLeDiff]
    exact ⟨0, Nat.zero_le _, rfl, rfl⟩
  · rintro k σ ⟨j, hj, rfl, rfl⟩
    by_cases hlt : j < l.length
    · have h1 : ((j : Int) < (l.length : Int)) := by omega
      have hv := eqVol_ok m (by omega) l[j] (ho _ (List.getElem_mem hlt))
      have hx : l[j]? = some l[j] := List.getElem?_eq_getElem hlt
      generalize l[j] = x at hv hx
      try simp only [go_sem] at hv
      simp only [go_sem, Nat.reduceLT, Nat.reduceAdd, Nat.reduceSub, Nat.reduceEqDiff, Nat.reduceLeDiff, h1, hx, wrap_succ hlt (by omega), hv]
      first | exact ⟨_, by omega, j + 1, hlt, rfl, rfl⟩ | exact chk (by kernel_rfl) ⟨_, by omega, j + 1, hlt, rfl, rfl⟩
    · have h1 : ¬ ((j : Int) < (l.length : Int)) := by omega
      simp only [go_sem, Nat.reduceLT, Nat.reduceAdd, Nat.reduceSub, Nat.reduceEqDiff, Nat.reduceLeDiff, h1]
theorem eqFs_ok (n : Nat) (hn : Big + 8 ≤ n) (x : TFs) (hx : x.ok) : pcall env n 20 [.c .agg (x.pv.map argC'), .c .agg (x.pv.map argC')] [] = some ⟨pvSV (.b true), []⟩ := by
  obtain ⟨m, rfl⟩ := ex_pred hn
  have c0 := eqVolS_ok m (by omega) x.Vols hx.Vols.1 hx.Vols.2
  try simp only [go_sem] at c0
  refine wq_eq (wq_pcall (fn := Tryz.f20) rfl rfl rfl (Nat.le_of_ble_eq_true rfl) ?_)
  unfold Tryz.f20
  simp only [go_sem, Nat.reduceLT, Nat.reduceAdd, Nat.reduceSub, Nat.reduceEqDiff, Nat.reduceLeDiff, c0]
theorem eqRow_ok (n : Nat) (hn : Big + 1 ≤ n) (x : TRow) (hx : x.ok) : pcall env n 104 [.c .agg (x.pv.map argC'), .c .agg (x.pv.map argC')] [] = some ⟨pvSV (.b true), []⟩ := by
  obtain ⟨m, rfl⟩ := ex_pred hn
  refine wq_eq (wq_pcall (fn := Tryz.f104) rfl rfl rfl (Nat.le_of_ble_eq_true rfl) ?_)
  unfold Tryz.f104
  simp only [go_sem, Nat.reduceLT, Nat.reduceAdd, Nat.reduceSub, Nat.reduceEqDiff, Nat.reduceLeDiff]
theorem eqRowS_ok (n : Nat) (hn : Big + 2 ≤ n) (l : List TRow) (ho : ∀ y ∈ l, TRow.ok y) (hl : l.length ≤ Bd) : pcall env n 67 [.c .one [.sh true (.s 5 (l.map TRow.pv))], .c .one [.sh true (.s 5 (l.map TRow.pv))]] [] = some ⟨pvSV (.b true), []⟩ := by
  obtain ⟨m, rfl⟩ := ex_pred hn
  have hB := big_bd
  have hb : Bd = 1048576 := rfl
  refine wq_eq (wq_pcall (fn := Tryz.f67) rfl rfl rfl (Nat.le_of_ble_eq_true rfl) ?_)
  unfold Tryz.f67
  simp only [go_sem, Nat.reduceLT, Nat.reduceAdd, Nat.reduceSub, Nat.reduceEqDiff, Nat.reduceLeDiff]
  refine wq_loop_at (fun k σ => ∃ j : Nat, j ≤ l.length ∧ k = l.length - j ∧ σ = slots 27 [(0, .c .one [.sh true (.s 5 (l.map TRow.pv))]), (1, .c .one [.sh true (.s 5 (l.map TRow.pv))]), (5, .c .one [.sh false (.i .i64 (j : Nat))])]) l.length (by omega) ?_ ?_
  · simp only [go_sem, Nat.reduceLT, Nat.reduceAdd, Nat.reduceSub, Nat.reduceEqDiff, Nat.reduceLeDiff]
    exact ⟨0, Nat.zero_le _, rfl, rfl⟩
  · rintro k σ ⟨j, hj, rfl, rfl⟩
    by_cases hlt : j < l.length
    · have h1 : ((j : Int) < (l.length : Int)) := by omega
      have hv := eqRow_ok m (by omega) l[j] (ho _ (List.getElem_mem hlt))
      have hx : l[j]? = some l[j] := List.getElem?_eq_getElem hlt
      generalize l[j] = x at hv hx
      try simp only [go_sem] at hv
      simp only [go_sem, Nat.reduceLT, Nat.reduceAdd, Nat.reduceSub, Nat.reduceEqDiff, Nat.reduceLeDiff, h1, hx, wrap_succ hlt (by omega), hv]
      first | exact ⟨_, by omega, j + 1, hlt, rfl, rfl⟩ | exact chk (by kernel_rfl) ⟨_, by omega, j + 1, hlt, rfl, rfl⟩
    · have h1 : ¬ ((j : Int) < (l.length : Int)) := by omega
      simp only [go_sem, Nat.reduceLT, Nat.reduceAdd, Nat.reduceSub, Nat.reduceEqDiff, Nat.reduceLeDiff, h1]
theorem eqTable_ok (n : Nat) (hn : Big + 3 ≤ n) (x : TTable) (hx : x.ok) : pcall env n 42 [.c .agg (x.pv.map argC'), .c .agg (x.pv.map argC')] [] = some ⟨pvSV (.b true), []⟩ := by
  obtain ⟨m, rfl⟩ := ex_pred hn
  have c0 := eqRowS_ok m (by omega) x.Rows hx.Rows.1 hx.Rows.2
  try simp only [go_sem] at c0
  refine wq_eq (wq_pcall (fn := Tryz.f42) rfl rfl rfl (Nat.le_of_ble_eq_true rfl) ?_)
  unfold Tryz.f42
  simp only [go_sem, Nat.reduceLT, Nat.reduceAdd, Nat.reduceSub, Nat.reduceEqDiff, Nat.reduceLeDiff, c0]
theorem eqPlace_ok (n : Nat) (hn : Big + 1 ≤ n) (x : TPlace) (hx : x.ok) : pcall env n 123 [.c .agg (x.pv.map argC'), .c .agg (x.pv.map argC')] [] = some ⟨pvSV (.b true), []⟩ := by
  obtain ⟨m, rfl⟩ := ex_pred hn
  refine wq_eq (wq_pcall (fn := Tryz.f123) rfl rfl rfl (Nat.le_of_ble_eq_true rfl) ?_)
  unfold Tryz.f123
  simp only [go_sem, Nat.reduceLT, Nat.reduceAdd, Nat.reduceSub, Nat.reduceEqDiff, Nat.reduceLeDiff]
theorem eqPlaceS_ok (n : Nat) (hn : Big + 2 ≤ n) (l : List TPlace) (ho : ∀ y ∈ l, TPlace.ok y) (hl : l.length ≤ Bd) : pcall env n 105 [.c .one [.sh true (.s 2 (l.map TPlace.pv))], .c .one [.sh true (.s 2 (l.map TPlace.pv))]] [] = some ⟨pvSV (.b true), []⟩ := by
  obtain ⟨m, rfl⟩ := ex_pred hn
  have hB := big_bd
  have hb : Bd = 1048576 := rfl
  refine wq_eq (wq_pcall (fn := Tryz.f105) rfl rfl rfl (Nat.le_of_ble_eq_true rfl) ?_)
  unfold Tryz.f105
  simp only [go_sem, Nat.reduceLT, Nat.reduceAdd, Nat.reduceSub, Nat.reduceEqDiff, Nat.reduceLeDiff]
  refine wq_loop_at (fun k σ => ∃ j : Nat, j ≤ l.length ∧ k = l.length - j ∧ σ = slots 27 [(0, .c .one [.sh true (.s 2 (l.map TPlace.pv))]), (1, .c .one [.sh true (.s 2 (l.map TPlace.pv))]), (5, .c .one [.sh false (.i .i64 (j : Nat))])]) l.length (by omega) ?_ ?_
  · simp only [go_sem, Nat.reduceLT, Nat.reduceAdd, Nat.reduceSub, Nat.reduceEqDiff, Nat.reduceLeDiff]
    exact ⟨0, Nat.zero_le _, rfl, rfl⟩
  · rintro k σ ⟨j, hj, rfl, rfl⟩
    by_cases hlt : j < l.length
    · have h1 : ((j : Int) < (l.length : Int)) := by omega
      have hv := eqPlace_ok m (by omega) l[j] (ho _ (List.getElem_mem hlt))
      have hx : l[j]? = some l[j] := List.getElem?_eq_getElem hlt
      generalize l[j] = x at hv hx
      try simp only [go_sem] at hv
      simp only [go_sem, Nat.reduceLT, Nat.reduceAdd, Nat.reduceSub, Nat.reduceEqDiff, Nat.reduceLeDiff, h1, hx, wrap_succ hlt (by omega), hv]
      first | exact ⟨_, by omega, j + 1, hlt, rfl, rfl⟩ | exact chk (by kernel_rfl) ⟨_, by omega, j + 1, hlt, rfl, rfl⟩
    · have h1 : ¬ ((j : Int) < (l.length : Int)) := by omega
      simp only [go_sem, Nat.reduceLT, Nat.reduceAdd, Nat.reduceSub, Nat.reduceEqDiff, Nat.reduceLeDiff, h1]
theorem eqMap_ok (n : Nat) (hn : Big + 3 ≤ n) (x : TMap) (hx : x.ok) : pcall env n 68 [.c .agg (x.pv.map argC'), .c .agg (x.pv.map argC')] [] = some ⟨pvSV (.b true), []⟩ := by
  obtain ⟨m, rfl⟩ := ex_pred hn
  have c0 := eqPlaceS_ok m (by omega) x.Places hx.Places.1 hx.Places.2
  try simp only [go_sem] at c0
  refine wq_eq (wq_pcall (fn := Tryz.f68) rfl rfl rfl (Nat.le_of_ble_eq_true rfl) ?_)
  unfold Tryz.f68
  simp only [go_sem, Nat.reduceLT, Nat.reduceAdd, Nat.reduceSub, Nat.reduceEqDiff, Nat.reduceLeDiff, c0]
theorem eqMapS_ok (n : Nat) (hn : Big + 4 ≤ n) (l : List TMap) (ho : ∀ y ∈ l, TMap.ok y) (hl : l.length ≤ Bd) : pcall env n 43 [.c .one [.sh true (.s 2 (l.map TMap.pv))], .c .one [.sh true (.s 2 (l.map TMap.pv))]] [] = some ⟨pvSV (.b true), []⟩ := by
  obtain ⟨m, rfl⟩ := ex_pred hn
  have hB := big_bd
  have hb : Bd = 1048576 := rfl
  refine wq_eq (wq_pcall (fn := Tryz.f43) rfl rfl rfl (Nat.le_of_ble_eq_true rfl) ?_)
  unfold Tryz.f43
  simp only [go_sem, Nat.reduceLT, Nat.reduceAdd, Nat.reduceSub, Nat.reduceEqDiff, Nat.reduceLeDiff]
  refine wq_loop_at (fun k σ => ∃ j : Nat, j ≤ l.length ∧ k = l.length - j ∧ σ = slots 27 [(0, .c .one [.sh true (.s 2 (l.map TMap.pv))]), (1, .c .one [.sh true (.s 2 (l.map TMap.pv))]), (5, .c .one [.sh false (.i .i64 (j : Nat))])]) l.length (by omega) ?_ ?_
  · simp only [go_sem, Nat.reduceLT, Nat.reduceAdd, Nat.reduceSub, Nat.reduceEqDiff, Nat.reduceLeDiff]
    exact ⟨0, Nat.zero_le _, rfl, rfl⟩
  · rintro k σ ⟨j, hj, rfl, rfl⟩
    by_cases hlt : j < l.length
    · have h1 : ((j : Int) < (l.length : Int)) := by omega
      have hv := eqMap_ok m (by omega) l[j] (ho _ (List.getElem_mem hlt))
      have hx : l[j]? = some l[j] := List.getElem?_eq_getElem hlt
      generalize l[j] = x at hv hx
      try simp only [go_sem] at hv
      simp only [go_sem, Nat.reduceLT, Nat.reduceAdd, Nat.reduceSub, Nat.reduceEqDiff, Nat.reduceLeDiff, h1, hx, wrap_succ hlt (by omega), hv]
      first | exact ⟨_, by omega, j + 1, hlt, rfl, rfl⟩ | exact chk (by kernel_rfl) ⟨_, by omega, j + 1, hlt, rfl, rfl⟩
    · have h1 : ¬ ((j : Int) < (l.length : Int)) := by omega
      simp only [go_sem, Nat.reduceLT, Nat.reduceAdd, Nat.reduceSub, Nat.reduceEqDiff, Nat.reduceLeDiff, h1]
theorem eqImage_ok (n : Nat) (hn : Big + 9 ≤ n) (x : TImage) (hx : x.ok) : pcall env n 21 [.c .agg (x.pv.map argC'), .c .agg (x.pv.map argC')] [] = some ⟨pvSV (.b true), []⟩ := by
  obtain ⟨m, rfl⟩ := ex_pred hn
  have c0 := eqFs_ok m (by omega) x.F hx.F
  try simp only [go_sem] at c0
  have c1 := eqTable_ok m (by omega) x.T hx.T
  try simp only [go_sem] at c1
  have c2 := eqMapS_ok m (by omega) x.Maps hx.Maps.1 hx.Maps.2
  try simp only [go_sem] at c2
  refine wq_eq (wq_pcall (fn := Tryz.f21) rfl rfl rfl (Nat.le_of_ble_eq_true rfl) ?_)
  unfold Tryz.f21
  simp only [go_sem, Nat.reduceLT, Nat.reduceAdd, Nat.reduceSub, Nat.reduceEqDiff, Nat.reduceLeDiff, c0, c1, c2]
theorem eqLog_ok (n : Nat) (hn : Big + 8 ≤ n) (x : TLog) (hx : x.ok) : pcall env n 22 [.c .agg (x.pv.map argC'), .c .agg (x.pv.map argC')] [] = some ⟨pvSV (.b true), []⟩ := by
  obtain ⟨m, rfl⟩ := ex_pred hn
  have c0 := eqDev_ok m (by omega) x.D hx.D
  try simp only [go_sem] at c0
  refine wq_eq (wq_pcall (fn := Tryz.f22) rfl rfl rfl (Nat.le_of_ble_eq_true rfl) ?_)
  unfold Tryz.f22
  simp only [go_sem, Nat.reduceLT, Nat.reduceAdd, Nat.reduceSub, Nat.reduceEqDiff, Nat.reduceLeDiff, c0]
theorem eqEng_ok (n : Nat) (hn : Big + 10 ≤ n) (x : TEng) (hx : x.ok) : pcall env n 9 [.c .agg (x.pv.map argC'), .c .agg (x.pv.map argC')] [] = some ⟨pvSV (.b true), []⟩ := by
  obtain ⟨m, rfl⟩ := ex_pred hn
  have c0 := eqFs_ok m (by omega) x.F hx.F
  try simp only [go_sem] at c0
  have c1 := eqImage_ok m (by omega) x.M hx.M
  try simp only [go_sem] at c1
  have c2 := eqLog_ok m (by omega) x.L hx.L
  try simp only [go_sem] at c2
  refine wq_eq (wq_pcall (fn := Tryz.f9) rfl rfl rfl (Nat.le_of_ble_eq_true rfl) ?_)
  unfold Tryz.f9
  simp only [go_sem, Nat.reduceLT, Nat.reduceAdd, Nat.reduceSub, Nat.reduceEqDiff, Nat.reduceLeDiff, c0, c1, c2]
theorem szAttr_ok (n : Nat) (hn : Big + 1 ≤ n) (x : TAttr) (hx : x.ok) : ∃ g : Int → Int, ∀ left, pcall env n 146 [.c .agg (x.pv.map argC'), pvSV (.i .i64 left)] [] = some ⟨pvSV (.i .i64 (g left)), []⟩ := by
  refine skolem_int fun left => ?_
  obtain ⟨m, rfl⟩ := ex_pred hn
  refine wq_int (wq_pcall (fn := Tryz.f146) rfl rfl rfl (Nat.le_of_ble_eq_true rfl) ?_)
  unfold Tryz.f146
  simp only [go_sem, Nat.reduceLT, Nat.reduceAdd, Nat.reduceSub, Nat.reduceEqDiff, Nat.reduceLeDiff]
  repeat' (first | exact ⟨_, rfl⟩ | (refine bq_mk (fun h => ?_) (fun h => ?_) <;> simp only [go_sem, Nat.reduceLT, Nat.reduceAdd, Nat.reduceSub, Nat.reduceEqDiff, Nat.reduceLeDiff]))
theorem szAttrS_ok (n : Nat) (hn : Big + 2 ≤ n) (l : List TAttr) (ho : ∀ y ∈ l, TAttr.ok y) (hl : l.length ≤ Bd) : ∃ g : Int → Int, ∀ left, pcall env n 135 [.c .one [.sh true (.s 2 (l.map TAttr.pv))], pvSV (.i .i64 left)] [] = some ⟨pvSV (.i .i64 (g left)), []⟩ := by
  refine skolem_int fun left => ?_
  obtain ⟨m, rfl⟩ := ex_pred hn
  have hB := big_bd
  have hb : Bd = 1048576 := rfl
  refine wq_int (wq_pcall (fn := Tryz.f135) rfl rfl rfl (Nat.le_of_ble_eq_true rfl) ?_)
  unfold Tryz.f135
  simp only [go_sem, Nat.reduceLT, Nat.reduceAdd, Nat.reduceSub, Nat.reduceEqDiff, Nat.reduceLeDiff]
  refine bq_mk (fun h => ?_) (fun h => ?_) <;> simp only [go_sem, Nat.reduceLT, Nat.reduceAdd, Nat.reduceSub, Nat.reduceEqDiff, Nat.reduceLeDiff]
  · exact ⟨_, rfl⟩
  refine wq_loop_at (fun k σ => ∃ v, ∃ j : Nat, j ≤ l.length ∧ k = l.length - j ∧ σ = slots 27 [(0, .c .one [.sh true (.s 2 (l.map TAttr.pv))]), (1, .c .one [.sh false (.i .i64 v)]), (5, .c .one [.sh false (.i .i64 (j : Nat))])]) l.length (by omega) ?_ ?_
  · simp only [go_sem, Nat.reduceLT, Nat.reduceAdd, Nat.reduceSub, Nat.reduceEqDiff, Nat.reduceLeDiff]
    exact ⟨_, 0, Nat.zero_le _, rfl, rfl⟩
  · rintro k σ ⟨v, j, hj, rfl, rfl⟩
    by_cases hlt : j < l.length
    · have h1 : ((j : Int) < (l.length : Int)) := by omega
      obtain ⟨g, hv⟩ := szAttr_ok m (by omega) l[j] (ho _ (List.getElem_mem hlt))
      have hx : l[j]? = some l[j] := List.getElem?_eq_getElem hlt
      generalize l[j] = x at hv hx
      try simp only [go_sem] at hv
      simp only [go_sem, Nat.reduceLT, Nat.reduceAdd, Nat.reduceSub, Nat.reduceEqDiff, Nat.reduceLeDiff, h1, hx, wrap_succ hlt (by omega), hv]
      refine bq_mk (fun h => ?_) (fun h => ?_) <;> simp only [go_sem, Nat.reduceLT, Nat.reduceAdd, Nat.reduceSub, Nat.reduceEqDiff, Nat.reduceLeDiff, h1, hx, wrap_succ hlt (by omega), hv]
      · exact ⟨_, rfl⟩
      · exact ⟨_, by omega, _, j + 1, hlt, rfl, rfl⟩
    · have h1 : ¬ ((j : Int) < (l.length : Int)) := by omega
      simp only [go_sem, Nat.reduceLT, Nat.reduceAdd, Nat.reduceSub, Nat.reduceEqDiff, Nat.reduceLeDiff, h1]
      exact ⟨_, rfl⟩
theorem szByteS_ok (n : Nat) (hn : Big + 1 ≤ n) (l : List UInt8) (ho : ∀ y ∈ l, okB y) (hl : l.length ≤ Bd) : ∃ g : Int → Int, ∀ left, pcall env n 133 [.c .one [.sh true (.s 1 (l.map bpv))], pvSV (.i .i64 left)] [] = some ⟨pvSV (.i .i64 (g left)), []⟩ := by
  refine skolem_int fun left => ?_
  obtain ⟨m, rfl⟩ := ex_pred hn
  have hB := big_bd
  have hb : Bd = 1048576 := rfl
  refine wq_int (wq_pcall (fn := Tryz.f133) rfl rfl rfl (Nat.le_of_ble_eq_true rfl) ?_)
  unfold Tryz.f133
  simp only [go_sem, Nat.reduceLT, Nat.reduceAdd, Nat.reduceSub, Nat.reduceEqDiff, Nat.reduceLeDiff]
  repeat' (first | exact ⟨_, rfl⟩ | (refine bq_mk (fun h => ?_) (fun h => ?_) <;> simp only [go_sem, Nat.reduceLT, Nat.reduceAdd, Nat.reduceSub, Nat.reduceEqDiff, Nat.reduceLeDiff]))
theorem szPage_ok (n : Nat) (hn : Big + 2 ≤ n) (x : TPage) (hx : x.ok) : ∃ g : Int → Int, ∀ left, pcall env n 136 [.c .agg (x.pv.map argC'), pvSV (.i .i64 left)] [] = some ⟨pvSV (.i .i64 (g left)), []⟩ := by
  refine skolem_int fun left => ?_
  obtain ⟨m, rfl⟩ := ex_pred hn
  obtain ⟨g0, c0⟩ := szByteS_ok m (by omega) x.B hx.B.1 hx.B.2
  try simp only [go_sem] at c0
  refine wq_int (wq_pcall (fn := Tryz.f136) rfl rfl rfl (Nat.le_of_ble_eq_true rfl) ?_)
  unfold Tryz.f136
  simp only [go_sem, Nat.reduceLT, Nat.reduceAdd, Nat.reduceSub, Nat.reduceEqDiff, Nat.reduceLeDiff, c0]
  repeat' (first | exact ⟨_, rfl⟩ | (refine bq_mk (fun h => ?_) (fun h => ?_) <;> simp only [go_sem, Nat.reduceLT, Nat.reduceAdd, Nat.reduceSub, Nat.reduceEqDiff, Nat.reduceLeDiff, c0]))
theorem szPageS_ok (n : Nat) (hn : Big + 3 ≤ n) (l : List TPage) (ho : ∀ y ∈ l, TPage.ok y) (hl : l.length ≤ Bd) : ∃ g : Int → Int, ∀ left, pcall env n 127 [.c .one [.sh true (.s 2 (l.map TPage.pv))], pvSV (.i .i64 left)] [] = some ⟨pvSV (.i .i64 (g left)), []⟩ := by
  refine skolem_int fun left => ?_
  obtain ⟨m, rfl⟩ := ex_pred hn
  have hB := big_bd
  have hb : Bd = 1048576 := rfl
  refine wq_int (wq_pcall (fn := Tryz.f127) rfl rfl rfl (Nat.le_of_ble_eq_true rfl) ?_)
  unfold Tryz.f127
  simp only [go_sem, Nat.reduceLT, Nat.reduceAdd, Nat.reduceSub, Nat.reduceEqDiff, Nat.reduceLeDiff]
  refine bq_mk (fun h => ?_) (fun h => ?_) <;> simp only [go_sem, Nat.reduceLT, Nat.reduceAdd, Nat.reduceSub, Nat.reduceEqDiff, Nat.reduceLeDiff]
  · exact ⟨_, rfl⟩
  refine wq_loop_at (fun k σ => ∃ v, ∃ j : Nat, j ≤ l.length ∧ k = l.length - j ∧ σ = slots 27 [(0, .c .one [.sh true (.s 2 (l.map TPage.pv))]), (1, .c .one [.sh false (.i .i64 v)]), (5, .c .one [.sh false (.i .i64 (j : Nat))])]) l.length (by omega) ?_ ?_
  · simp only [go_sem, Nat.reduceLT, Nat.reduceAdd, Nat.reduceSub, Nat.reduceEqDiff, Nat.reduceLeDiff]
    exact ⟨_, 0, Nat.zero_le _, rfl, rfl⟩
  · rintro k σ ⟨v, j, hj, rfl, rfl⟩
    by_cases hlt : j < l.length
    · have h1 : ((j : Int) < (l.length : Int)) := by omega
      obtain ⟨g, hv⟩ := szPage_ok m (by omega) l[j] (ho _ (List.getElem_mem hlt))
      have hx : l[j]? = some l[j] := List.getElem?_eq_getElem hlt
      generalize l[j] = x at hv hx
      try simp only [go_sem] at hv
      simp only [go_sem, Nat.reduceLT, Nat.reduceAdd, Nat.reduceSub, Nat.reduceEqDiff, Nat.reduceLeDiff, h1, hx, wrap_succ hlt (by omega), hv]
      refine bq_mk (fun h => ?_) (fun h => ?_) <;> simp only [go_sem, Nat.reduceLT, Nat.reduceAdd, Nat.reduceSub, Nat.reduceEqDiff, Nat.reduceLeDiff, h1, hx, wrap_succ hlt (by omega), hv]
      · exact ⟨_, rfl⟩
      · exact ⟨_, by omega, _, j + 1, hlt, rfl, rfl⟩
    · have h1 : ¬ ((j : Int) < (l.length : Int)) := by omega
      simp only [go_sem, Nat.reduceLT, Nat.reduceAdd, Nat.reduceSub, Nat.reduceEqDiff, Nat.reduceLeDiff, h1]
      exact ⟨_, rfl⟩
theorem szBlock_ok (n : Nat) (hn : Big + 4 ≤ n) (x : TBlock) (hx : x.ok) : ∃ g : Int → Int, ∀ left, pcall env n 112 [.c .agg (x.pv.map argC'), pvSV (.i .i64 left)] [] = some ⟨pvSV (.i .i64 (g left)), []⟩ := by
  refine skolem_int fun left => ?_
  obtain ⟨m, rfl⟩ := ex_pred hn
  obtain ⟨g0, c0⟩ := szPageS_ok m (by omega) x.Pages hx.Pages.1 hx.Pages.2
  try simp only [go_sem] at c0
  refine wq_int (wq_pcall (fn := Tryz.f112) rfl rfl rfl (Nat.le_of_ble_eq_true rfl) ?_)
  unfold Tryz.f112
  simp only [go_sem, Nat.reduceLT, Nat.reduceAdd, Nat.reduceSub, Nat.reduceEqDiff, Nat.reduceLeDiff, c0]
  repeat' (first | exact ⟨_, rfl⟩ | (refine bq_mk (fun h => ?_) (fun h => ?_) <;> simp only [go_sem, Nat.reduceLT, Nat.reduceAdd, Nat.reduceSub, Nat.reduceEqDiff, Nat.reduceLeDiff, c0]))
theorem szBlockS_ok (n : Nat) (hn : Big + 5 ≤ n) (l : List TBlock) (ho : ∀ y ∈ l, TBlock.ok y) (hl : l.length ≤ Bd) : ∃ g : Int → Int, ∀ left, pcall env n 85 [.c .one [.sh true (.s 3 (l.map TBlock.pv))], pvSV (.i .i64 left)] [] = some ⟨pvSV (.i .i64 (g left)), []⟩ := by
  refine skolem_int fun left => ?_
  obtain ⟨m, rfl⟩ := ex_pred hn
  have hB := big_bd
  have hb : Bd = 1048576 := rfl
  refine wq_int (wq_pcall (fn := Tryz.f85) rfl rfl rfl (Nat.le_of_ble_eq_true rfl) ?_)
  unfold Tryz.f85
  simp only [go_sem, Nat.reduceLT, Nat.reduceAdd, Nat.reduceSub, Nat.reduceEqDiff, Nat.reduceLeDiff]
  refine bq_mk (fun h => ?_) (fun h => ?_) <;> simp only [go_sem, Nat.reduceLT, Nat.reduceAdd, Nat.reduceSub, Nat.reduceEqDiff, Nat.reduceLeDiff]
  · exact ⟨_, rfl⟩
  refine wq_loop_at (fun k σ => ∃ v, ∃ j : Nat, j ≤ l.length ∧ k = l.length - j ∧ σ = slots 27 [(0, .c .one [.sh true (.s 3 (l.map TBlock.pv))]), (1, .c .one [.sh false (.i .i64 v)]), (5, .c .one [.sh false (.i .i64 (j : Nat))])]) l.length (by omega) ?_ ?_
  · simp only [go_sem, Nat.reduceLT, Nat.reduceAdd, Nat.reduceSub, Nat.reduceEqDiff, Nat.reduceLeDiff]
    exact ⟨_, 0, Nat.zero_le _, rfl, rfl⟩
  · rintro k σ ⟨v, j, hj, rfl, rfl⟩
    by_cases hlt : j < l.length
    · have h1 : ((j : Int) < (l.length : Int)) := by omega
      obtain ⟨g, hv⟩ := szBlock_ok m (by omega) l[j] (ho _ (List.getElem_mem hlt))
      have hx : l[j]? = some l[j] := List.getElem?_eq_getElem hlt
      generalize l[j] = x at hv hx
      try simp only [go_sem] at hv
      simp only [go_sem, Nat.reduceLT, Nat.reduceAdd, Nat.reduceSub, Nat.reduceEqDiff, Nat.reduceLeDiff, h1, hx, wrap_succ hlt (by omega), hv]
      refine bq_mk (fun h => ?_) (fun h => ?_) <;> simp only [go_sem, Nat.reduceLT, Nat.reduceAdd, Nat.reduceSub, Nat.reduceEqDiff, Nat.reduceLeDiff, h1, hx, wrap_succ hlt (by omega), hv]
      · exact ⟨_, rfl⟩
      · exact ⟨_, by omega, _, j + 1, hlt, rfl, rfl⟩
    · have h1 : ¬ ((j : Int) < (l.length : Int)) := by omega
      simp only [go_sem, Nat.reduceLT, Nat.reduceAdd, Nat.reduceSub, Nat.reduceEqDiff, Nat.reduceLeDiff, h1]
      exact ⟨_, rfl⟩
theorem szChip_ok (n : Nat) (hn : Big + 6 ≤ n) (x : TChip) (hx : x.ok) : ∃ g : Int → Int, ∀ left, pcall env n 54 [.c .agg (x.pv.map argC'), pvSV (.i .i64 left)] [] = some ⟨pvSV (.i .i64 (g left)), []⟩ := by
  refine skolem_int fun left => ?_
  obtain ⟨m, rfl⟩ := ex_pred hn
  obtain ⟨g0, c0⟩ := szBlockS_ok m (by omega) x.Blocks hx.Blocks.1 hx.Blocks.2
  try simp only [go_sem] at c0
  refine wq_int (wq_pcall (fn := Tryz.f54) rfl rfl rfl (Nat.le_of_ble_eq_true rfl) ?_)
  unfold Tryz.f54
  simp only [go_sem, Nat.reduceLT, Nat.reduceAdd, Nat.reduceSub, Nat.reduceEqDiff, Nat.reduceLeDiff, c0]
  repeat' (first | exact ⟨_, rfl⟩ | (refine bq_mk (fun h => ?_) (fun h => ?_) <;> simp only [go_sem, Nat.reduceLT, Nat.reduceAdd, Nat.reduceSub, Nat.reduceEqDiff, Nat.reduceLeDiff, c0]))
theorem szFaultS_ok (n : Nat) (hn : Big + 1 ≤ n) (l : List TFault) (ho : ∀ y ∈ l, TFault.ok y) (hl : l.length ≤ Bd) : ∃ g : Int → Int, ∀ left, pcall env n 55 [.c .one [.sh true (.s 3 (l.map TFault.pv))], pvSV (.i .i64 left)] [] = some ⟨pvSV (.i .i64 (g left)), []⟩ := by
  refine skolem_int fun left => ?_
  obtain ⟨m, rfl⟩ := ex_pred hn
  have hB := big_bd
  have hb : Bd = 1048576 := rfl
  refine wq_int (wq_pcall (fn := Tryz.f55) rfl rfl rfl (Nat.le_of_ble_eq_true rfl) ?_)
  unfold Tryz.f55
  simp only [go_sem, Nat.reduceLT, Nat.reduceAdd, Nat.reduceSub, Nat.reduceEqDiff, Nat.reduceLeDiff]
  repeat' (first | exact ⟨_, rfl⟩ | (refine bq_mk (fun h => ?_) (fun h => ?_) <;> simp only [go_sem, Nat.reduceLT, Nat.reduceAdd, Nat.reduceSub, Nat.reduceEqDiff, Nat.reduceLeDiff]))
theorem szDev_ok (n : Nat) (hn : Big + 7 ≤ n) (x : TDev) (hx : x.ok) : ∃ g : Int → Int, ∀ left, pcall env n 29 [.c .agg (x.pv.map argC'), pvSV (.i .i64 left)] [] = some ⟨pvSV (.i .i64 (g left)), []⟩ := by
  refine skolem_int fun left => ?_
  obtain ⟨m, rfl⟩ := ex_pred hn
  obtain ⟨g0, c0⟩ := szChip_ok m (by omega) x.C hx.C
  try simp only [go_sem] at c0
  obtain ⟨g1, c1⟩ := szFaultS_ok m (by omega) x.Faults hx.Faults.1 hx.Faults.2
  try simp only [go_sem] at c1
  refine wq_int (wq_pcall (fn := Tryz.f29) rfl rfl rfl (Nat.le_of_ble_eq_true rfl) ?_)
  unfold Tryz.f29
  simp only [go_sem, Nat.reduceLT, Nat.reduceAdd, Nat.reduceSub, Nat.reduceEqDiff, Nat.reduceLeDiff, c0, c1]
  repeat' (first | exact ⟨_, rfl⟩ | (refine bq_mk (fun h => ?_) (fun h => ?_) <;> simp only [go_sem, Nat.reduceLT, Nat.reduceAdd, Nat.reduceSub, Nat.reduceEqDiff, Nat.reduceLeDiff, c0, c1]))
theorem szEnt_ok (n : Nat) (hn : Big + 1 ≤ n) (x : TEnt) (hx : x.ok) : ∃ g : Int → Int, ∀ left, pcall env n 145 [.c .agg (x.pv.map argC'), pvSV (.i .i64 left)] [] = some ⟨pvSV (.i .i64 (g left)), []⟩ := by
  refine skolem_int fun left => ?_
  obtain ⟨m, rfl⟩ := ex_pred hn
  refine wq_int (wq_pcall (fn := Tryz.f145) rfl rfl rfl (Nat.le_of_ble_eq_true rfl) ?_)
  unfold Tryz.f145
  simp only [go_sem, Nat.reduceLT, Nat.reduceAdd, Nat.reduceSub, Nat.reduceEqDiff, Nat.reduceLeDiff]
  repeat' (first | exact ⟨_, rfl⟩ | (refine bq_mk (fun h => ?_) (fun h => ?_) <;> simp only [go_sem, Nat.reduceLT, Nat.reduceAdd, Nat.reduceSub, Nat.reduceEqDiff, Nat.reduceLeDiff]))
theorem szEntS_ok (n : Nat) (hn : Big + 2 ≤ n) (l : List TEnt) (ho : ∀ y ∈ l, TEnt.ok y) (hl : l.length ≤ Bd) : ∃ g : Int → Int, ∀ left, pcall env n 134 [.c .one [.sh true (.s 2 (l.map TEnt.pv))], pvSV (.i .i64 left)] [] = some ⟨pvSV (.i .i64 (g left)), []⟩ := by
  refine skolem_int fun left => ?_
  obtain ⟨m, rfl⟩ := ex_pred hn
  have hB := big_bd
  have hb : Bd = 1048576 := rfl
  refine wq_int (wq_pcall (fn := Tryz.f134) rfl rfl rfl (Nat.le_of_ble_eq_true rfl) ?_)
  unfold Tryz.f134
  simp only [go_sem, Nat.reduceLT, Nat.reduceAdd, Nat.reduceSub, Nat.reduceEqDiff, Nat.reduceLeDiff]
  refine bq_mk (fun h => ?_) (fun h => ?_) <;> simp only [go_sem, Nat.reduceLT, Nat.reduceAdd, Nat.reduceSub, Nat.reduceEqDiff, Nat.reduceLeDiff]
  · exact ⟨_, rfl⟩
  refine wq_loop_at (fun k σ => ∃ v, ∃ j : Nat, j ≤ l.length ∧ k = l.length - j ∧ σ = slots 27 [(0, .c .one [.sh true (.s 2 (l.map TEnt.pv))]), (1, .c .one [.sh false (.i .i64 v)]), (5, .c .one [.sh false (.i .i64 (j : Nat))])]) l.length (by omega) ?_ ?_
  · simp only [go_sem, Nat.reduceLT, Nat.reduceAdd, Nat.reduceSub, Nat.reduceEqDiff, Nat.reduceLeDiff]
    exact ⟨_, 0, Nat.zero_le _, rfl, rfl⟩
  · rintro k σ ⟨v, j, hj, rfl, rfl⟩
    by_cases hlt : j < l.length
    · have h1 : ((j : Int) < (l.length : Int)) := by omega
      obtain ⟨g, hv⟩ := szEnt_ok m (by omega) l[j] (ho _ (List.getElem_mem hlt))
      have hx : l[j]? = some l[j] := List.getElem?_eq_getElem hlt
      generalize l[j] = x at hv hx
      try simp only [go_sem] at hv
      simp only [go_sem, Nat.reduceLT, Nat.reduceAdd, Nat.reduceSub, Nat.reduceEqDiff, Nat.reduceLeDiff, h1, hx, wrap_succ hlt (by omega), hv]
      refine bq_mk (fun h => ?_) (fun h => ?_) <;> simp only [go_sem, Nat.reduceLT, Nat.reduceAdd, Nat.reduceSub, Nat.reduceEqDiff, Nat.reduceLeDiff, h1, hx, wrap_succ hlt (by omega), hv]
      · exact ⟨_, rfl⟩
      · exact ⟨_, by omega, _, j + 1, hlt, rfl, rfl⟩
    · have h1 : ¬ ((j : Int) < (l.length : Int)) := by omega
      simp only [go_sem, Nat.reduceLT, Nat.reduceAdd, Nat.reduceSub, Nat.reduceEqDiff, Nat.reduceLeDiff, h1]
      exact ⟨_, rfl⟩
theorem szInode_ok (n : Nat) (hn : Big + 3 ≤ n) (x : TInode) (hx : x.ok) : ∃ g : Int → Int, ∀ left, pcall env n 126 [.c .agg (x.pv.map argC'), pvSV (.i .i64 left)] [] = some ⟨pvSV (.i .i64 (g left)), []⟩ := by
  refine skolem_int fun left => ?_
  obtain ⟨m, rfl⟩ := ex_pred hn
  obtain ⟨g0, c0⟩ := szByteS_ok m (by omega) x.Data hx.Data.1 hx.Data.2
  try simp only [go_sem] at c0
  obtain ⟨g1, c1⟩ := szEntS_ok m (by omega) x.Ents hx.Ents.1 hx.Ents.2
  try simp only [go_sem] at c1
  obtain ⟨g2, c2⟩ := szAttrS_ok m (by omega) x.Attrs hx.Attrs.1 hx.Attrs.2
  try simp only [go_sem] at c2
  refine wq_int (wq_pcall (fn := Tryz.f126) rfl rfl rfl (Nat.le_of_ble_eq_true rfl) ?_)
  unfold Tryz.f126
  simp only [go_sem, Nat.reduceLT, Nat.reduceAdd, Nat.reduceSub, Nat.reduceEqDiff, Nat.reduceLeDiff, c0, c1, c2]
  repeat' (first | exact ⟨_, rfl⟩ | (refine bq_mk (fun h => ?_) (fun h => ?_) <;> simp only [go_sem, Nat.reduceLT, Nat.reduceAdd, Nat.reduceSub, Nat.reduceEqDiff, Nat.reduceLeDiff, c0, c1, c2]))
theorem szInodeS_ok (n : Nat) (hn : Big + 4 ≤ n) (l : List TInode) (ho : ∀ y ∈ l, TInode.ok y) (hl : l.length ≤ Bd) : ∃ g : Int → Int, ∀ left, pcall env n 111 [.c .one [.sh true (.s 6 (l.map TInode.pv))], pvSV (.i .i64 left)] [] = some ⟨pvSV (.i .i64 (g left)), []⟩ := by
  refine skolem_int fun left => ?_
  obtain ⟨m, rfl⟩ := ex_pred hn
  have hB := big_bd
  have hb : Bd = 1048576 := rfl
  refine wq_int (wq_pcall (fn := Tryz.f111) rfl rfl rfl (Nat.le_of_ble_eq_true rfl) ?_)
  unfold Tryz.f111
  simp only [go_sem, Nat.reduceLT, Nat.reduceAdd, Nat.reduceSub, Nat.reduceEqDiff, Nat.reduceLeDiff]
  refine bq_mk (fun h => ?_) (fun h => ?_) <;> simp only [go_sem, Nat.reduceLT, Nat.reduceAdd, Nat.reduceSub, Nat.reduceEqDiff, Nat.reduceLeDiff]
  · exact ⟨_, rfl⟩
  refine wq_loop_at (fun k σ => ∃ v, ∃ j : Nat, j ≤ l.length ∧ k = l.length - j ∧ σ = slots 27 [(0, .c .one [.sh true (.s 6 (l.map TInode.pv))]), (1, .c .one [.sh false (.i .i64 v)]), (5, .c .one [.sh false (.i .i64 (j : Nat))])]) l.length (by omega) ?_ ?_
  · simp only [go_sem, Nat.reduceLT, Nat.reduceAdd, Nat.reduceSub, Nat.reduceEqDiff, Nat.reduceLeDiff]
    exact ⟨_, 0, Nat.zero_le _, rfl, rfl⟩
  · rintro k σ ⟨v, j, hj, rfl, rfl⟩
    by_cases hlt : j < l.length
    · have h1 : ((j : Int) < (l.length : Int)) := by omega
      obtain ⟨g, hv⟩ := szInode_ok m (by omega) l[j] (ho _ (List.getElem_mem hlt))
      have hx : l[j]? = some l[j] := List.getElem?_eq_getElem hlt
      generalize l[j] = x at hv hx
      try simp only [go_sem] at hv
      simp only [go_sem, Nat.reduceLT, Nat.reduceAdd, Nat.reduceSub, Nat.reduceEqDiff, Nat.reduceLeDiff, h1, hx, wrap_succ hlt (by omega), hv]
      refine bq_mk (fun h => ?_) (fun h => ?_) <;> simp only [go_sem, Nat.reduceLT, Nat.reduceAdd, Nat.reduceSub, Nat.reduceEqDiff, Nat.reduceLeDiff, h1, hx, wrap_succ hlt (by omega), hv]
      · exact ⟨_, rfl⟩
      · exact ⟨_, by omega, _, j + 1, hlt, rfl, rfl⟩
    · have h1 : ¬ ((j : Int) < (l.length : Int)) := by omega
      simp only [go_sem, Nat.reduceLT, Nat.reduceAdd, Nat.reduceSub, Nat.reduceEqDiff, Nat.reduceLeDiff, h1]
      exact ⟨_, rfl⟩
theorem szTab_ok (n : Nat) (hn : Big + 5 ≤ n) (x : TTab) (hx : x.ok) : ∃ g : Int → Int, ∀ left, pcall env n 82 [.c .agg (x.pv.map argC'), pvSV (.i .i64 left)] [] = some ⟨pvSV (.i .i64 (g left)), []⟩ := by
  refine skolem_int fun left => ?_
  obtain ⟨m, rfl⟩ := ex_pred hn
  obtain ⟨g0, c0⟩ := szInodeS_ok m (by omega) x.Inodes hx.Inodes.1 hx.Inodes.2
  try simp only [go_sem] at c0
  refine wq_int (wq_pcall (fn := Tryz.f82) rfl rfl rfl (Nat.le_of_ble_eq_true rfl) ?_)
  unfold Tryz.f82
  simp only [go_sem, Nat.reduceLT, Nat.reduceAdd, Nat.reduceSub, Nat.reduceEqDiff, Nat.reduceLeDiff, c0]
  repeat' (first | exact ⟨_, rfl⟩ | (refine bq_mk (fun h => ?_) (fun h => ?_) <;> simp only [go_sem, Nat.reduceLT, Nat.reduceAdd, Nat.reduceSub, Nat.reduceEqDiff, Nat.reduceLeDiff, c0]))
theorem szVol_ok (n : Nat) (hn : Big + 6 ≤ n) (x : TVol) (hx : x.ok) : ∃ g : Int → Int, ∀ left, pcall env n 51 [.c .agg (x.pv.map argC'), pvSV (.i .i64 left)] [] = some ⟨pvSV (.i .i64 (g left)), []⟩ := by
  refine skolem_int fun left => ?_
  obtain ⟨m, rfl⟩ := ex_pred hn
  obtain ⟨g0, c0⟩ := szTab_ok m (by omega) x.T hx.T
  try simp only [go_sem] at c0
  refine wq_int (wq_pcall (fn := Tryz.f51) rfl rfl rfl (Nat.le_of_ble_eq_true rfl) ?_)
  unfold Tryz.f51
  simp only [go_sem, Nat.reduceLT, Nat.reduceAdd, Nat.reduceSub, Nat.reduceEqDiff, Nat.reduceLeDiff, c0]
  repeat' (first | exact ⟨_, rfl⟩ | (refine bq_mk (fun h => ?_) (fun h => ?_) <;> simp only [go_sem, Nat.reduceLT, Nat.reduceAdd, Nat.reduceSub, Nat.reduceEqDiff, Nat.reduceLeDiff, c0]))
theorem szVolS_ok (n : Nat) (hn : Big + 7 ≤ n) (l : List TVol) (ho : ∀ y ∈ l, TVol.ok y) (hl : l.length ≤ Bd) : ∃ g : Int → Int, ∀ left, pcall env n 26 [.c .one [.sh true (.s 6 (l.map TVol.pv))], pvSV (.i .i64 left)] [] = some ⟨pvSV (.i .i64 (g left)), []⟩ := by
  refine skolem_int fun left => ?_
  obtain ⟨m, rfl⟩ := ex_pred hn
  have hB := big_bd
  have hb : Bd = 1048576 := rfl
  refine wq_int (wq_pcall (fn := Tryz.f26) rfl rfl rfl (Nat.le_of_ble_eq_true rfl) ?_)
  unfold Tryz.f26
  simp only [go_sem, Nat.reduceLT, Nat.reduceAdd, Nat.reduceSub, Nat.reduceEqDiff, Nat.reduceLeDiff]
  refine bq_mk (fun h => ?_) (fun h => ?_) <;> simp only [go_sem, Nat.reduceLT, Nat.reduceAdd, Nat.reduceSub, Nat.reduceEqDiff, Nat.reduceLeDiff]
  · exact ⟨_, rfl⟩
  refine wq_loop_at (fun k σ => ∃ v, ∃ j : Nat, j ≤ l.length ∧ k = l.length - j ∧ σ = slots 27 [(0, .c .one [.sh true (.s 6 (l.map TVol.pv))]), (1, .c .one [.sh false (.i .i64 v)]), (5, .c .one [.sh false (.i .i64 (j : Nat))])]) l.length (by omega) ?_ ?_
  · simp only [go_sem, Nat.reduceLT, Nat.reduceAdd, Nat.reduceSub, Nat.reduceEqDiff, Nat.reduceLeDiff]
    exact ⟨_, 0, Nat.zero_le _, rfl, rfl⟩
  · rintro k σ ⟨v, j, hj, rfl, rfl⟩
    by_cases hlt : j < l.length
    · have h1 : ((j : Int) < (l.length : Int)) := by omega
      obtain ⟨g, hv⟩ := szVol_ok m (by omega) l[j] (ho _ (List.getElem_mem hlt))
      have hx : l[j]? = some l[j] := List.getElem?_eq_getElem hlt
      generalize l[j] = x at hv hx
      try simp only [go_sem] at hv
      simp only [go_sem, Nat.reduceLT, Nat.reduceAdd, Nat.reduceSub, Nat.reduceEqDiff, Nat.reduceLeDiff, h1, hx, wrap_succ hlt (by omega), hv]
      refine bq_mk (fun h => ?_) (fun h => ?_) <;> simp only [go_sem, Nat.reduceLT, Nat.reduceAdd, Nat.reduceSub, Nat.reduceEqDiff, Nat.reduceLeDiff, h1, hx, wrap_succ hlt (by omega), hv]
      · exact ⟨_, rfl⟩
      · exact ⟨_, by omega, _, j + 1, hlt, rfl, rfl⟩
    · have h1 : ¬ ((j : Int) < (l.length : Int)) := by omega
      simp only [go_sem, Nat.reduceLT, Nat.reduceAdd, Nat.reduceSub, Nat.reduceEqDiff, Nat.reduceLeDiff, h1]
      exact ⟨_, rfl⟩
theorem szFs_ok (n : Nat) (hn : Big + 8 ≤ n) (x : TFs) (hx : x.ok) : ∃ g : Int → Int, ∀ left, pcall env n 12 [.c .agg (x.pv.map argC'), pvSV (.i .i64 left)] [] = some ⟨pvSV (.i .i64 (g left)), []⟩ := by
  refine skolem_int fun left => ?_
  obtain ⟨m, rfl⟩ := ex_pred hn
  obtain ⟨g0, c0⟩ := szVolS_ok m (by omega) x.Vols hx.Vols.1 hx.Vols.2
  try simp only [go_sem] at c0
  refine wq_int (wq_pcall (fn := Tryz.f12) rfl rfl rfl (Nat.le_of_ble_eq_true rfl) ?_)
  unfold Tryz.f12
  simp only [go_sem, Nat.reduceLT, Nat.reduceAdd, Nat.reduceSub, Nat.reduceEqDiff, Nat.reduceLeDiff, c0]
  repeat' (first | exact ⟨_, rfl⟩ | (refine bq_mk (fun h => ?_) (fun h => ?_) <;> simp only [go_sem, Nat.reduceLT, Nat.reduceAdd, Nat.reduceSub, Nat.reduceEqDiff, Nat.reduceLeDiff, c0]))
theorem szRow_ok (n : Nat) (hn : Big + 1 ≤ n) (x : TRow) (hx : x.ok) : ∃ g : Int → Int, ∀ left, pcall env n 83 [.c .agg (x.pv.map argC'), pvSV (.i .i64 left)] [] = some ⟨pvSV (.i .i64 (g left)), []⟩ := by
  refine skolem_int fun left => ?_
  obtain ⟨m, rfl⟩ := ex_pred hn
  refine wq_int (wq_pcall (fn := Tryz.f83) rfl rfl rfl (Nat.le_of_ble_eq_true rfl) ?_)
  unfold Tryz.f83
  simp only [go_sem, Nat.reduceLT, Nat.reduceAdd, Nat.reduceSub, Nat.reduceEqDiff, Nat.reduceLeDiff]
  repeat' (first | exact ⟨_, rfl⟩ | (refine bq_mk (fun h => ?_) (fun h => ?_) <;> simp only [go_sem, Nat.reduceLT, Nat.reduceAdd, Nat.reduceSub, Nat.reduceEqDiff, Nat.reduceLeDiff]))
theorem szRowS_ok (n : Nat) (hn : Big + 2 ≤ n) (l : List TRow) (ho : ∀ y ∈ l, TRow.ok y) (hl : l.length ≤ Bd) : ∃ g : Int → Int, ∀ left, pcall env n 52 [.c .one [.sh true (.s 5 (l.map TRow.pv))], pvSV (.i .i64 left)] [] = some ⟨pvSV (.i .i64 (g left)), []⟩ := by
  refine skolem_int fun left => ?_
  obtain ⟨m, rfl⟩ := ex_pred hn
  have hB := big_bd
  have hb : Bd = 1048576 := rfl
  refine wq_int (wq_pcall (fn := Tryz.f52) rfl rfl rfl (Nat.le_of_ble_eq_true rfl) ?_)
  unfold Tryz.f52
  simp only [go_sem, Nat.reduceLT, Nat.reduceAdd, Nat.reduceSub, Nat.reduceEqDiff, Nat.reduceLeDiff]
  refine bq_mk (fun h => ?_) (fun h => ?_) <;> simp only [go_sem, Nat.reduceLT, Nat.reduceAdd, Nat.reduceSub, Nat.reduceEqDiff, Nat.reduceLeDiff]
  · exact ⟨_, rfl⟩
  refine wq_loop_at (fun k σ => ∃ v, ∃ j : Nat, j ≤ l.length ∧ k = l.length - j ∧ σ = slots 27 [(0, .c .one [.sh true (.s 5 (l.map TRow.pv))]), (1, .c .one [.sh false (.i .i64 v)]), (5, .c .one [.sh false (.i .i64 (j : Nat))])]) l.length (by omega) ?_ ?_
  · simp only [go_sem, Nat.reduceLT, Nat.reduceAdd, Nat.reduceSub, Nat.reduceEqDiff, Nat.reduceLeDiff]
    exact ⟨_, 0, Nat.zero_le _, rfl, rfl⟩
  · rintro k σ ⟨v, j, hj, rfl, rfl⟩
    by_cases hlt : j < l.length
    · have h1 : ((j : Int) < (l.length : Int)) := by omega
      obtain ⟨g, hv⟩ := szRow_ok m (by omega) l[j] (ho _ (List.getElem_mem hlt))
      have hx : l[j]? = some l[j] := List.getElem?_eq_getElem hlt
      generalize l[j] = x at hv hx
      try simp only [go_sem] at hv
      simp only [go_sem, Nat.reduceLT, Nat.reduceAdd, Nat.reduceSub, Nat.reduceEqDiff, Nat.reduceLeDiff, h1, hx, wrap_succ hlt (by omega), hv]
      refine bq_mk (fun h => ?_) (fun h => ?_) <;> simp only [go_sem, Nat.reduceLT, Nat.reduceAdd, Nat.reduceSub, Nat.reduceEqDiff, Nat.reduceLeDiff, h1, hx, wrap_succ hlt (by omega), hv]
      · exact ⟨_, rfl⟩
      · exact ⟨_, by omega, _, j + 1, hlt, rfl, rfl⟩
    · have h1 : ¬ ((j : Int) < (l.length : Int)) := by omega
      simp only [go_sem, Nat.reduceLT, Nat.reduceAdd, Nat.reduceSub, Nat.reduceEqDiff, Nat.reduceLeDiff, h1]
      exact ⟨_, rfl⟩
theorem szTable_ok (n : Nat) (hn : Big + 3 ≤ n) (x : TTable) (hx : x.ok) : ∃ g : Int → Int, ∀ left, pcall env n 27 [.c .agg (x.pv.map argC'), pvSV (.i .i64 left)] [] = some ⟨pvSV (.i .i64 (g left)), []⟩ := by
  refine skolem_int fun left => ?_
  obtain ⟨m, rfl⟩ := ex_pred hn
  obtain ⟨g0, c0⟩ := szRowS_ok m (by omega) x.Rows hx.Rows.1 hx.Rows.2
  try simp only [go_sem] at c0
  refine wq_int (wq_pcall (fn := Tryz.f27) rfl rfl rfl (Nat.le_of_ble_eq_true rfl) ?_)
  unfold Tryz.f27
  simp only [go_sem, Nat.reduceLT, Nat.reduceAdd, Nat.reduceSub, Nat.reduceEqDiff, Nat.reduceLeDiff, c0]
  repeat' (first | exact ⟨_, rfl⟩ | (refine bq_mk (fun h => ?_) (fun h => ?_) <;> simp only [go_sem, Nat.reduceLT, Nat.reduceAdd, Nat.reduceSub, Nat.reduceEqDiff, Nat.reduceLeDiff, c0]))
theorem szPlaceS_ok (n : Nat) (hn : Big + 1 ≤ n) (l : List TPlace) (ho : ∀ y ∈ l, TPlace.ok y) (hl : l.length ≤ Bd) : ∃ g : Int → Int, ∀ left, pcall env n 84 [.c .one [.sh true (.s 2 (l.map TPlace.pv))], pvSV (.i .i64 left)] [] = some ⟨pvSV (.i .i64 (g left)), []⟩ := by
  refine skolem_int fun left => ?_
  obtain ⟨m, rfl⟩ := ex_pred hn
  have hB := big_bd
  have hb : Bd = 1048576 := rfl
  refine wq_int (wq_pcall (fn := Tryz.f84) rfl rfl rfl (Nat.le_of_ble_eq_true rfl) ?_)
  unfold Tryz.f84
  simp only [go_sem, Nat.reduceLT, Nat.reduceAdd, Nat.reduceSub, Nat.reduceEqDiff, Nat.reduceLeDiff]
  repeat' (first | exact ⟨_, rfl⟩ | (refine bq_mk (fun h => ?_) (fun h => ?_) <;> simp only [go_sem, Nat.reduceLT, Nat.reduceAdd, Nat.reduceSub, Nat.reduceEqDiff, Nat.reduceLeDiff]))
theorem szMap_ok (n : Nat) (hn : Big + 2 ≤ n) (x : TMap) (hx : x.ok) : ∃ g : Int → Int, ∀ left, pcall env n 53 [.c .agg (x.pv.map argC'), pvSV (.i .i64 left)] [] = some ⟨pvSV (.i .i64 (g left)), []⟩ := by
  refine skolem_int fun left => ?_
  obtain ⟨m, rfl⟩ := ex_pred hn
  obtain ⟨g0, c0⟩ := szPlaceS_ok m (by omega) x.Places hx.Places.1 hx.Places.2
  try simp only [go_sem] at c0
  refine wq_int (wq_pcall (fn := Tryz.f53) rfl rfl rfl (Nat.le_of_ble_eq_true rfl) ?_)
  unfold Tryz.f53
  simp only [go_sem, Nat.reduceLT, Nat.reduceAdd, Nat.reduceSub, Nat.reduceEqDiff, Nat.reduceLeDiff, c0]
  repeat' (first | exact ⟨_, rfl⟩ | (refine bq_mk (fun h => ?_) (fun h => ?_) <;> simp only [go_sem, Nat.reduceLT, Nat.reduceAdd, Nat.reduceSub, Nat.reduceEqDiff, Nat.reduceLeDiff, c0]))
theorem szMapS_ok (n : Nat) (hn : Big + 3 ≤ n) (l : List TMap) (ho : ∀ y ∈ l, TMap.ok y) (hl : l.length ≤ Bd) : ∃ g : Int → Int, ∀ left, pcall env n 28 [.c .one [.sh true (.s 2 (l.map TMap.pv))], pvSV (.i .i64 left)] [] = some ⟨pvSV (.i .i64 (g left)), []⟩ := by
  refine skolem_int fun left => ?_
  obtain ⟨m, rfl⟩ := ex_pred hn
  have hB := big_bd
  have hb : Bd = 1048576 := rfl
  refine wq_int (wq_pcall (fn := Tryz.f28) rfl rfl rfl (Nat.le_of_ble_eq_true rfl) ?_)
  unfold Tryz.f28
  simp only [go_sem, Nat.reduceLT, Nat.reduceAdd, Nat.reduceSub, Nat.reduceEqDiff, Nat.reduceLeDiff]
  refine bq_mk (fun h => ?_) (fun h => ?_) <;> simp only [go_sem, Nat.reduceLT, Nat.reduceAdd, Nat.reduceSub, Nat.reduceEqDiff, Nat.reduceLeDiff]
  · exact ⟨_, rfl⟩
  refine wq_loop_at (fun k σ => ∃ v, ∃ j : Nat, j ≤ l.length ∧ k = l.length - j ∧ σ = slots 27 [(0, .c .one [.sh true (.s 2 (l.map TMap.pv))]), (1, .c .one [.sh false (.i .i64 v)]), (5, .c .one [.sh false (.i .i64 (j : Nat))])]) l.length (by omega) ?_ ?_
  · simp only [go_sem, Nat.reduceLT, Nat.reduceAdd, Nat.reduceSub, Nat.reduceEqDiff, Nat.reduceLeDiff]
    exact ⟨_, 0, Nat.zero_le _, rfl, rfl⟩
  · rintro k σ ⟨v, j, hj, rfl, rfl⟩
    by_cases hlt : j < l.length
    · have h1 : ((j : Int) < (l.length : Int)) := by omega
      obtain ⟨g, hv⟩ := szMap_ok m (by omega) l[j] (ho _ (List.getElem_mem hlt))
      have hx : l[j]? = some l[j] := List.getElem?_eq_getElem hlt
      generalize l[j] = x at hv hx
      try simp only [go_sem] at hv
      simp only [go_sem, Nat.reduceLT, Nat.reduceAdd, Nat.reduceSub, Nat.reduceEqDiff, Nat.reduceLeDiff, h1, hx, wrap_succ hlt (by omega), hv]
      refine bq_mk (fun h => ?_) (fun h => ?_) <;> simp only [go_sem, Nat.reduceLT, Nat.reduceAdd, Nat.reduceSub, Nat.reduceEqDiff, Nat.reduceLeDiff, h1, hx, wrap_succ hlt (by omega), hv]
      · exact ⟨_, rfl⟩
      · exact ⟨_, by omega, _, j + 1, hlt, rfl, rfl⟩
    · have h1 : ¬ ((j : Int) < (l.length : Int)) := by omega
      simp only [go_sem, Nat.reduceLT, Nat.reduceAdd, Nat.reduceSub, Nat.reduceEqDiff, Nat.reduceLeDiff, h1]
      exact ⟨_, rfl⟩
theorem szImage_ok (n : Nat) (hn : Big + 9 ≤ n) (x : TImage) (hx : x.ok) : ∃ g : Int → Int, ∀ left, pcall env n 13 [.c .agg (x.pv.map argC'), pvSV (.i .i64 left)] [] = some ⟨pvSV (.i .i64 (g left)), []⟩ := by
  refine skolem_int fun left => ?_
  obtain ⟨m, rfl⟩ := ex_pred hn
  obtain ⟨g0, c0⟩ := szFs_ok m (by omega) x.F hx.F
  try simp only [go_sem] at c0
  obtain ⟨g1, c1⟩ := szTable_ok m (by omega) x.T hx.T
  try simp only [go_sem] at c1
  obtain ⟨g2, c2⟩ := szMapS_ok m (by omega) x.Maps hx.Maps.1 hx.Maps.2
  try simp only [go_sem] at c2
  refine wq_int (wq_pcall (fn := Tryz.f13) rfl rfl rfl (Nat.le_of_ble_eq_true rfl) ?_)
  unfold Tryz.f13
  simp only [go_sem, Nat.reduceLT, Nat.reduceAdd, Nat.reduceSub, Nat.reduceEqDiff, Nat.reduceLeDiff, c0, c1, c2]
  repeat' (first | exact ⟨_, rfl⟩ | (refine bq_mk (fun h => ?_) (fun h => ?_) <;> simp only [go_sem, Nat.reduceLT, Nat.reduceAdd, Nat.reduceSub, Nat.reduceEqDiff, Nat.reduceLeDiff, c0, c1, c2]))
theorem szLog_ok (n : Nat) (hn : Big + 8 ≤ n) (x : TLog) (hx : x.ok) : ∃ g : Int → Int, ∀ left, pcall env n 14 [.c .agg (x.pv.map argC'), pvSV (.i .i64 left)] [] = some ⟨pvSV (.i .i64 (g left)), []⟩ := by
  refine skolem_int fun left => ?_
  obtain ⟨m, rfl⟩ := ex_pred hn
  obtain ⟨g0, c0⟩ := szDev_ok m (by omega) x.D hx.D
  try simp only [go_sem] at c0
  refine wq_int (wq_pcall (fn := Tryz.f14) rfl rfl rfl (Nat.le_of_ble_eq_true rfl) ?_)
  unfold Tryz.f14
  simp only [go_sem, Nat.reduceLT, Nat.reduceAdd, Nat.reduceSub, Nat.reduceEqDiff, Nat.reduceLeDiff, c0]
  repeat' (first | exact ⟨_, rfl⟩ | (refine bq_mk (fun h => ?_) (fun h => ?_) <;> simp only [go_sem, Nat.reduceLT, Nat.reduceAdd, Nat.reduceSub, Nat.reduceEqDiff, Nat.reduceLeDiff, c0]))
theorem szEng_ok (n : Nat) (hn : Big + 10 ≤ n) (x : TEng) (hx : x.ok) : ∃ g : Int → Int, ∀ left, pcall env n 5 [.c .agg (x.pv.map argC'), pvSV (.i .i64 left)] [] = some ⟨pvSV (.i .i64 (g left)), []⟩ := by
  refine skolem_int fun left => ?_
  obtain ⟨m, rfl⟩ := ex_pred hn
  obtain ⟨g0, c0⟩ := szFs_ok m (by omega) x.F hx.F
  try simp only [go_sem] at c0
  obtain ⟨g1, c1⟩ := szImage_ok m (by omega) x.M hx.M
  try simp only [go_sem] at c1
  obtain ⟨g2, c2⟩ := szLog_ok m (by omega) x.L hx.L
  try simp only [go_sem] at c2
  refine wq_int (wq_pcall (fn := Tryz.f5) rfl rfl rfl (Nat.le_of_ble_eq_true rfl) ?_)
  unfold Tryz.f5
  simp only [go_sem, Nat.reduceLT, Nat.reduceAdd, Nat.reduceSub, Nat.reduceEqDiff, Nat.reduceLeDiff, c0, c1, c2]
  repeat' (first | exact ⟨_, rfl⟩ | (refine bq_mk (fun h => ?_) (fun h => ?_) <;> simp only [go_sem, Nat.reduceLT, Nat.reduceAdd, Nat.reduceSub, Nat.reduceEqDiff, Nat.reduceLeDiff, c0, c1, c2]))
theorem toAttr_ok (n : Nat) (hn : Big + 1 ≤ n) (x : TAttr) (hx : x.ok) : pcall env n 148 [.c .agg (x.pv.map argC')] [] = some ⟨.c .agg (x.pv.map frC), []⟩ := by
  obtain ⟨m, rfl⟩ := ex_pred hn
  refine wq_eq (wq_pcall (fn := Tryz.f148) rfl rfl rfl (Nat.le_of_ble_eq_true rfl) ?_)
  unfold Tryz.f148
  simp only [go_sem, Nat.reduceLT, Nat.reduceAdd, Nat.reduceSub, Nat.reduceEqDiff, Nat.reduceLeDiff]
theorem toAttrS_ok (n : Nat) (hn : Big + 2 ≤ n) (l : List TAttr) (ho : ∀ y ∈ l, TAttr.ok y) (hl : l.length ≤ Bd) : pcall env n 139 [.c .one [.sh true (.s 2 (l.map TAttr.pv))]] [] = some ⟨.c .one [.ow false 2 (l.map TAttr.pv)], []⟩ := by
  obtain ⟨m, rfl⟩ := ex_pred hn
  have hB := big_bd
  have hb : Bd = 1048576 := rfl
  refine wq_eq (wq_pcall (fn := Tryz.f139) rfl rfl rfl (Nat.le_of_ble_eq_true rfl) ?_)
  unfold Tryz.f139
  simp only [go_sem, Nat.reduceLT, Nat.reduceAdd, Nat.reduceSub, Nat.reduceEqDiff, Nat.reduceLeDiff]
  refine bq_pos (by unfold LIM; omega) ?_
  simp only [go_sem, Nat.reduceLT, Nat.reduceAdd, Nat.reduceSub, Nat.reduceEqDiff, Nat.reduceLeDiff]
  refine wq_loop_at (fun k σ => ∃ j : Nat, j ≤ l.length ∧ k = l.length - j ∧ σ = slots 23 [(0, .c .one [.sh true (.s 2 (l.map TAttr.pv))]), (3, .c .one [.ow false 2 (filling TAttr.pv l [.t ⟨#[]⟩, .t ⟨#[]⟩] j)]), (4, .c .one [.sh false (.i .i64 (j : Nat))])]) l.length (by omega) ?_ ?_
  · simp only [go_sem, Nat.reduceLT, Nat.reduceAdd, Nat.reduceSub, Nat.reduceEqDiff, Nat.reduceLeDiff, fill_zero (pv := TAttr.pv)]
    exact ⟨0, Nat.zero_le _, rfl, rfl⟩
  · rintro k σ ⟨j, hj, rfl, rfl⟩
    by_cases hlt : j < l.length
    · have h1 : ((j : Int) < (l.length : Int)) := by omega
      have hv := toAttr_ok m (by omega) l[j] (ho _ (List.getElem_mem hlt))
      have hx : l[j]? = some l[j] := List.getElem?_eq_getElem hlt
      generalize l[j] = x at hv hx
      try simp only [go_sem] at hv
      have hs := fill_set (pv := TAttr.pv) (z := [.t ⟨#[]⟩, .t ⟨#[]⟩]) hx
      simp only [go_sem] at hs
      simp only [go_sem, Nat.reduceLT, Nat.reduceAdd, Nat.reduceSub, Nat.reduceEqDiff, Nat.reduceLeDiff, h1, hx, wrap_succ hlt (by omega), hv, fill_get hlt, fill_length hj, hs]
      exact ⟨_, by omega, j + 1, hlt, rfl, rfl⟩
    · have h1 : ¬ ((j : Int) < (l.length : Int)) := by omega
      obtain rfl : j = l.length := by omega
      simp only [go_sem, Nat.reduceLT, Nat.reduceAdd, Nat.reduceSub, Nat.reduceEqDiff, Nat.reduceLeDiff, h1, fill_end]
theorem toByteS_ok (n : Nat) (hn : Big + 1 ≤ n) (l : List UInt8) (ho : ∀ y ∈ l, okB y) (hl : l.length ≤ Bd) : pcall env n 137 [.c .one [.sh true (.s 1 (l.map bpv))]] [] = some ⟨.c .one [.ow false 1 (l.map bpv)], []⟩ := by
  obtain ⟨m, rfl⟩ := ex_pred hn
  have hB := big_bd
  have hb : Bd = 1048576 := rfl
  refine wq_eq (wq_pcall (fn := Tryz.f137) rfl rfl rfl (Nat.le_of_ble_eq_true rfl) ?_)
  unfold Tryz.f137
  simp only [go_sem, Nat.reduceLT, Nat.reduceAdd, Nat.reduceSub, Nat.reduceEqDiff, Nat.reduceLeDiff]
  refine bq_pos (by unfold LIM; omega) ?_
  simp only [go_sem, Nat.reduceLT, Nat.reduceAdd, Nat.reduceSub, Nat.reduceEqDiff, Nat.reduceLeDiff]
  refine wq_loop_at (fun k σ => ∃ j : Nat, j ≤ l.length ∧ k = l.length - j ∧ σ = slots 22 [(0, .c .one [.sh true (.s 1 (l.map bpv))]), (3, .c .one [.ow false 1 (filling bpv l [.i .u8 0] j)]), (4, .c .one [.sh false (.i .i64 (j : Nat))])]) l.length (by omega) ?_ ?_
  · simp only [go_sem, Nat.reduceLT, Nat.reduceAdd, Nat.reduceSub, Nat.reduceEqDiff, Nat.reduceLeDiff, fill_zero (pv := bpv)]
    exact ⟨0, Nat.zero_le _, rfl, rfl⟩
  · rintro k σ ⟨j, hj, rfl, rfl⟩
    by_cases hlt : j < l.length
    · have h1 : ((j : Int) < (l.length : Int)) := by omega
      have hx : l[j]? = some l[j] := List.getElem?_eq_getElem hlt
      generalize l[j] = x at hx
      have hs := fill_set (pv := bpv) (z := [.i .u8 0]) hx
      simp only [go_sem] at hs
      simp only [go_sem, Nat.reduceLT, Nat.reduceAdd, Nat.reduceSub, Nat.reduceEqDiff, Nat.reduceLeDiff, h1, hx, wrap_succ hlt (by omega), fill_get hlt, fill_length hj, hs]
      exact ⟨_, by omega, j + 1, hlt, rfl, rfl⟩
    · have h1 : ¬ ((j : Int) < (l.length : Int)) := by omega
      obtain rfl : j = l.length := by omega
      simp only [go_sem, Nat.reduceLT, Nat.reduceAdd, Nat.reduceSub, Nat.reduceEqDiff, Nat.reduceLeDiff, h1, fill_end]
theorem toPage_ok (n : Nat) (hn : Big + 2 ≤ n) (x : TPage) (hx : x.ok) : pcall env n 140 [.c .agg (x.pv.map argC')] [] = some ⟨.c .agg (x.pv.map frC), []⟩ := by
  obtain ⟨m, rfl⟩ := ex_pred hn
  have c0 := toByteS_ok m (by omega) x.B hx.B.1 hx.B.2
  try simp only [go_sem] at c0
  refine wq_eq (wq_pcall (fn := Tryz.f140) rfl rfl rfl (Nat.le_of_ble_eq_true rfl) ?_)
  unfold Tryz.f140
  simp only [go_sem, Nat.reduceLT, Nat.reduceAdd, Nat.reduceSub, Nat.reduceEqDiff, Nat.reduceLeDiff, c0]
theorem toPageS_ok (n : Nat) (hn : Big + 3 ≤ n) (l : List TPage) (ho : ∀ y ∈ l, TPage.ok y) (hl : l.length ≤ Bd) : pcall env n 129 [.c .one [.sh true (.s 2 (l.map TPage.pv))]] [] = some ⟨.c .one [.ow false 2 (l.map TPage.pv)], []⟩ := by
  obtain ⟨m, rfl⟩ := ex_pred hn
  have hB := big_bd
  have hb : Bd = 1048576 := rfl
  refine wq_eq (wq_pcall (fn := Tryz.f129) rfl rfl rfl (Nat.le_of_ble_eq_true rfl) ?_)
  unfold Tryz.f129
  simp only [go_sem, Nat.reduceLT, Nat.reduceAdd, Nat.reduceSub, Nat.reduceEqDiff, Nat.reduceLeDiff]
  refine bq_pos (by unfold LIM; omega) ?_
  simp only [go_sem, Nat.reduceLT, Nat.reduceAdd, Nat.reduceSub, Nat.reduceEqDiff, Nat.reduceLeDiff]
  refine wq_loop_at (fun k σ => ∃ j : Nat, j ≤ l.length ∧ k = l.length - j ∧ σ = slots 23 [(0, .c .one [.sh true (.s 2 (l.map TPage.pv))]), (3, .c .one [.ow false 2 (filling TPage.pv l [.b false, .s 1 []] j)]), (4, .c .one [.sh false (.i .i64 (j : Nat))])]) l.length (by omega) ?_ ?_
  · simp only [go_sem, Nat.reduceLT, Nat.reduceAdd, Nat.reduceSub, Nat.reduceEqDiff, Nat.reduceLeDiff, fill_zero (pv := TPage.pv)]
    exact ⟨0, Nat.zero_le _, rfl, rfl⟩
  · rintro k σ ⟨j, hj, rfl, rfl⟩
    by_cases hlt : j < l.length
    · have h1 : ((j : Int) < (l.length : Int)) := by omega
      have hv := toPage_ok m (by omega) l[j] (ho _ (List.getElem_mem hlt))
      have hx : l[j]? = some l[j] := List.getElem?_eq_getElem hlt
      generalize l[j] = x at hv hx
      try simp only [go_sem] at hv
      have hs := fill_set (pv := TPage.pv) (z := [.b false, .s 1 []]) hx
      simp only [go_sem] at hs
      simp only [go_sem, Nat.reduceLT, Nat.reduceAdd, Nat.reduceSub, Nat.reduceEqDiff, Nat.reduceLeDiff, h1, hx, wrap_succ hlt (by omega), hv, fill_get hlt, fill_length hj, hs]
      exact ⟨_, by omega, j + 1, hlt, rfl, rfl⟩
    · have h1 : ¬ ((j : Int) < (l.length : Int)) := by omega
      obtain rfl : j = l.length := by omega
      simp only [go_sem, Nat.reduceLT, Nat.reduceAdd, Nat.reduceSub, Nat.reduceEqDiff, Nat.reduceLeDiff, h1, fill_end]
theorem toBlock_ok (n : Nat) (hn : Big + 4 ≤ n) (x : TBlock) (hx : x.ok) : pcall env n 115 [.c .agg (x.pv.map argC')] [] = some ⟨.c .agg (x.pv.map frC), []⟩ := by
  obtain ⟨m, rfl⟩ := ex_pred hn
  have c0 := toPageS_ok m (by omega) x.Pages hx.Pages.1 hx.Pages.2
  try simp only [go_sem] at c0
  refine wq_eq (wq_pcall (fn := Tryz.f115) rfl rfl rfl (Nat.le_of_ble_eq_true rfl) ?_)
  unfold Tryz.f115
  simp only [go_sem, Nat.reduceLT, Nat.reduceAdd, Nat.reduceSub, Nat.reduceEqDiff, Nat.reduceLeDiff, c0]
theorem toBlockS_ok (n : Nat) (hn : Big + 5 ≤ n) (l : List TBlock) (ho : ∀ y ∈ l, TBlock.ok y) (hl : l.length ≤ Bd) : pcall env n 90 [.c .one [.sh true (.s 3 (l.map TBlock.pv))]] [] = some ⟨.c .one [.ow false 3 (l.map TBlock.pv)], []⟩ := by
  obtain ⟨m, rfl⟩ := ex_pred hn
  have hB := big_bd
  have hb : Bd = 1048576 := rfl
  refine wq_eq (wq_pcall (fn := Tryz.f90) rfl rfl rfl (Nat.le_of_ble_eq_true rfl) ?_)
  unfold Tryz.f90
  simp only [go_sem, Nat.reduceLT, Nat.reduceAdd, Nat.reduceSub, Nat.reduceEqDiff, Nat.reduceLeDiff]
  refine bq_pos (by unfold LIM; omega) ?_
  simp only [go_sem, Nat.reduceLT, Nat.reduceAdd, Nat.reduceSub, Nat.reduceEqDiff, Nat.reduceLeDiff]
  refine wq_loop_at (fun k σ => ∃ j : Nat, j ≤ l.length ∧ k = l.length - j ∧ σ = slots 23 [(0, .c .one [.sh true (.s 3 (l.map TBlock.pv))]), (3, .c .one [.ow false 3 (filling TBlock.pv l [.s 2 [], .i .i64 0, .b false] j)]), (4, .c .one [.sh false (.i .i64 (j : Nat))])]) l.length (by omega) ?_ ?_
  · simp only [go_sem, Nat.reduceLT, Nat.reduceAdd, Nat.reduceSub, Nat.reduceEqDiff, Nat.reduceLeDiff, fill_zero (pv := TBlock.pv)]
    exact ⟨0, Nat.zero_le _, rfl, rfl⟩
  · rintro k σ ⟨j, hj, rfl, rfl⟩
    by_cases hlt : j < l.length
    · have h1 : ((j : Int) < (l.length : Int)) := by omega
      have hv := toBlock_ok m (by omega) l[j] (ho _ (List.getElem_mem hlt))
      have hx : l[j]? = some l[j] := List.getElem?_eq_getElem hlt
      generalize l[j] = x at hv hx
      try simp only [go_sem] at hv
      have hs := fill_set (pv := TBlock.pv) (z := [.s 2 [], .i .i64 0, .b false]) hx
      simp only [go_sem] at hs
      simp only [go_sem, Nat.reduceLT, Nat.reduceAdd, Nat.reduceSub, Nat.reduceEqDiff, Nat.reduceLeDiff, h1, hx, wrap_succ hlt (by omega), hv, fill_get hlt, fill_length hj, hs]
      exact ⟨_, by omega, j + 1, hlt, rfl, rfl⟩
    · have h1 : ¬ ((j : Int) < (l.length : Int)) := by omega
      obtain rfl : j = l.length := by omega
      simp only [go_sem, Nat.reduceLT, Nat.reduceAdd, Nat.reduceSub, Nat.reduceEqDiff, Nat.reduceLeDiff, h1, fill_end]
theorem toChip_ok (n : Nat) (hn : Big + 6 ≤ n) (x : TChip) (hx : x.ok) : pcall env n 60 [.c .agg (x.pv.map argC')] [] = some ⟨.c .agg (x.pv.map frC), []⟩ := by
  obtain ⟨m, rfl⟩ := ex_pred hn
  have c0 := toBlockS_ok m (by omega) x.Blocks hx.Blocks.1 hx.Blocks.2
  try simp only [go_sem] at c0
  refine wq_eq (wq_pcall (fn := Tryz.f60) rfl rfl rfl (Nat.le_of_ble_eq_true rfl) ?_)
  unfold Tryz.f60
  simp only [go_sem, Nat.reduceLT, Nat.reduceAdd, Nat.reduceSub, Nat.reduceEqDiff, Nat.reduceLeDiff, c0]
theorem toFault_ok (n : Nat) (hn : Big + 1 ≤ n) (x : TFault) (hx : x.ok) : pcall env n 91 [.c .agg (x.pv.map argC')] [] = some ⟨.c .agg (x.pv.map frC), []⟩ := by
  obtain ⟨m, rfl⟩ := ex_pred hn
  refine wq_eq (wq_pcall (fn := Tryz.f91) rfl rfl rfl (Nat.le_of_ble_eq_true rfl) ?_)
  unfold Tryz.f91
  simp only [go_sem, Nat.reduceLT, Nat.reduceAdd, Nat.reduceSub, Nat.reduceEqDiff, Nat.reduceLeDiff]
theorem toFaultS_ok (n : Nat) (hn : Big + 2 ≤ n) (l : List TFault) (ho : ∀ y ∈ l, TFault.ok y) (hl : l.length ≤ Bd) : pcall env n 61 [.c .one [.sh true (.s 3 (l.map TFault.pv))]] [] = some ⟨.c .one [.ow false 3 (l.map TFault.pv)], []⟩ := by
  obtain ⟨m, rfl⟩ := ex_pred hn
  have hB := big_bd
  have hb : Bd = 1048576 := rfl
  refine wq_eq (wq_pcall (fn := Tryz.f61) rfl rfl rfl (Nat.le_of_ble_eq_true rfl) ?_)
  unfold Tryz.f61
  simp only [go_sem, Nat.reduceLT, Nat.reduceAdd, Nat.reduceSub, Nat.reduceEqDiff, Nat.reduceLeDiff]
  refine bq_pos (by unfold LIM; omega) ?_
  simp only [go_sem, Nat.reduceLT, Nat.reduceAdd, Nat.reduceSub, Nat.reduceEqDiff, Nat.reduceLeDiff]
  refine wq_loop_at (fun k σ => ∃ j : Nat, j ≤ l.length ∧ k = l.length - j ∧ σ = slots 23 [(0, .c .one [.sh true (.s 3 (l.map TFault.pv))]), (3, .c .one [.ow false 3 (filling TFault.pv l [.i .i64 0, .i .i64 0, .i .i64 0] j)]), (4, .c .one [.sh false (.i .i64 (j : Nat))])]) l.length (by omega) ?_ ?_
  · simp only [go_sem, Nat.reduceLT, Nat.reduceAdd, Nat.reduceSub, Nat.reduceEqDiff, Nat.reduceLeDiff, fill_zero (pv := TFault.pv)]
    exact ⟨0, Nat.zero_le _, rfl, rfl⟩
  · rintro k σ ⟨j, hj, rfl, rfl⟩
    by_cases hlt : j < l.length
    · have h1 : ((j : Int) < (l.length : Int)) := by omega
      have hv := toFault_ok m (by omega) l[j] (ho _ (List.getElem_mem hlt))
      have hx : l[j]? = some l[j] := List.getElem?_eq_getElem hlt
      generalize l[j] = x at hv hx
      try simp only [go_sem] at hv
      have hs := fill_set (pv := TFault.pv) (z := [.i .i64 0, .i .i64 0, .i .i64 0]) hx
      simp only [go_sem] at hs
      simp only [go_sem, Nat.reduceLT, Nat.reduceAdd, Nat.reduceSub, Nat.reduceEqDiff, Nat.reduceLeDiff, h1, hx, wrap_succ hlt (by omega), hv, fill_get hlt, fill_length hj, hs]
      exact ⟨_, by omega, j + 1, hlt, rfl, rfl⟩
    · have h1 : ¬ ((j : Int) < (l.length : Int)) := by omega
      obtain rfl : j = l.length := by omega
      simp only [go_sem, Nat.reduceLT, Nat.reduceAdd, Nat.reduceSub, Nat.reduceEqDiff, Nat.reduceLeDiff, h1, fill_end]
theorem toDev_ok (n : Nat) (hn : Big + 7 ≤ n) (x : TDev) (hx : x.ok) : pcall env n 34 [.c .agg (x.pv.map argC')] [] = some ⟨.c .agg (x.pv.map frC), []⟩ := by
  obtain ⟨m, rfl⟩ := ex_pred hn
  have c0 := toChip_ok m (by omega) x.C hx.C
  try simp only [go_sem] at c0
  have c1 := toFaultS_ok m (by omega) x.Faults hx.Faults.1 hx.Faults.2
  try simp only [go_sem] at c1
  refine wq_eq (wq_pcall (fn := Tryz.f34) rfl rfl rfl (Nat.le_of_ble_eq_true rfl) ?_)
  unfold Tryz.f34
  simp only [go_sem, Nat.reduceLT, Nat.reduceAdd, Nat.reduceSub, Nat.reduceEqDiff, Nat.reduceLeDiff, c0, c1]
theorem toEnt_ok (n : Nat) (hn : Big + 1 ≤ n) (x : TEnt) (hx : x.ok) : pcall env n 147 [.c .agg (x.pv.map argC')] [] = some ⟨.c .agg (x.pv.map frC), []⟩ := by
  obtain ⟨m, rfl⟩ := ex_pred hn
  refine wq_eq (wq_pcall (fn := Tryz.f147) rfl rfl rfl (Nat.le_of_ble_eq_true rfl) ?_)
  unfold Tryz.f147
  simp only [go_sem, Nat.reduceLT, Nat.reduceAdd, Nat.reduceSub, Nat.reduceEqDiff, Nat.reduceLeDiff]
theorem toEntS_ok (n : Nat) (hn : Big + 2 ≤ n) (l : List TEnt) (ho : ∀ y ∈ l, TEnt.ok y) (hl : l.length ≤ Bd) : pcall env n 138 [.c .one [.sh true (.s 2 (l.map TEnt.pv))]] [] = some ⟨.c .one [.ow false 2 (l.map TEnt.pv)], []⟩ := by
  obtain ⟨m, rfl⟩ := ex_pred hn
  have hB := big_bd
  have hb : Bd = 1048576 := rfl
  refine wq_eq (wq_pcall (fn := Tryz.f138) rfl rfl rfl (Nat.le_of_ble_eq_true rfl) ?_)
  unfold Tryz.f138
  simp only [go_sem, Nat.reduceLT, Nat.reduceAdd, Nat.reduceSub, Nat.reduceEqDiff, Nat.reduceLeDiff]
  refine bq_pos (by unfold LIM; omega) ?_
  simp only [go_sem, Nat.reduceLT, Nat.reduceAdd, Nat.reduceSub, Nat.reduceEqDiff, Nat.reduceLeDiff]
  refine wq_loop_at (fun k σ => ∃ j : Nat, j ≤ l.length ∧ k = l.length - j ∧ σ = slots 23 [(0, .c .one [.sh true (.s 2 (l.map TEnt.pv))]), (3, .c .one [.ow false 2 (filling TEnt.pv l [.t ⟨#[]⟩, .i .i64 0] j)]), (4, .c .one [.sh false (.i .i64 (j : Nat))])]) l.length (by omega) ?_ ?_
  · simp only [go_sem, Nat.reduceLT, Nat.reduceAdd, Nat.reduceSub, Nat.reduceEqDiff, Nat.reduceLeDiff, fill_zero (pv := TEnt.pv)]
    exact ⟨0, Nat.zero_le _, rfl, rfl⟩
  · rintro k σ ⟨j, hj, rfl, rfl⟩
    by_cases hlt : j < l.length
    · have h1 : ((j : Int) < (l.length : Int)) := by omega
      have hv := toEnt_ok m (by omega) l[j] (ho _ (List.getElem_mem hlt))
      have hx : l[j]? = some l[j] := List.getElem?_eq_getElem hlt
      generalize l[j] = x at hv hx
      try simp only [go_sem] at hv
      have hs := fill_set (pv := TEnt.pv) (z := [.t ⟨#[]⟩, .i .i64 0]) hx
      simp only [go_sem] at hs
      simp only [go_sem, Nat.reduceLT, Nat.reduceAdd, Nat.reduceSub, Nat.reduceEqDiff, Nat.reduceLeDiff, h1, hx, wrap_succ hlt (by omega), hv, fill_get hlt, fill_length hj, hs]
      exact ⟨_, by omega, j + 1, hlt, rfl, rfl⟩
    · have h1 : ¬ ((j : Int) < (l.length : Int)) := by omega
      obtain rfl : j = l.length := by omega
      simp only [go_sem, Nat.reduceLT, Nat.reduceAdd, Nat.reduceSub, Nat.reduceEqDiff, Nat.reduceLeDiff, h1, fill_end]
theorem toInode_ok (n : Nat) (hn : Big + 3 ≤ n) (x : TInode) (hx : x.ok) : pcall env n 128 [.c .agg (x.pv.map argC')] [] = some ⟨.c .agg (x.pv.map frC), []⟩ := by
  obtain ⟨m, rfl⟩ := ex_pred hn
  have c0 := toByteS_ok m (by omega) x.Data hx.Data.1 hx.Data.2
  try simp only [go_sem] at c0
  have c1 := toEntS_ok m (by omega) x.Ents hx.Ents.1 hx.Ents.2
  try simp only [go_sem] at c1
  have c2 := toAttrS_ok m (by omega) x.Attrs hx.Attrs.1 hx.Attrs.2
  try simp only [go_sem] at c2
  refine wq_eq (wq_pcall (fn := Tryz.f128) rfl rfl rfl (Nat.le_of_ble_eq_true rfl) ?_)
  unfold Tryz.f128
  simp only [go_sem, Nat.reduceLT, Nat.reduceAdd, Nat.reduceSub, Nat.reduceEqDiff, Nat.reduceLeDiff, c0, c1, c2]
theorem toInodeS_ok (n : Nat) (hn : Big + 4 ≤ n) (l : List TInode) (ho : ∀ y ∈ l, TInode.ok y) (hl : l.length ≤ Bd) : pcall env n 113 [.c .one [.sh true (.s 6 (l.map TInode.pv))]] [] = some ⟨.c .one [.ow false 6 (l.map TInode.pv)], []⟩ := by
  obtain ⟨m, rfl⟩ := ex_pred hn
  have hB := big_bd
  have hb : Bd = 1048576 := rfl
  refine wq_eq (wq_pcall (fn := Tryz.f113) rfl rfl rfl (Nat.le_of_ble_eq_true rfl) ?_)
  unfold Tryz.f113
  simp only [go_sem, Nat.reduceLT, Nat.reduceAdd, Nat.reduceSub, Nat.reduceEqDiff, Nat.reduceLeDiff]
  refine bq_pos (by unfold LIM; omega) ?_
  simp only [go_sem, Nat.reduceLT, Nat.reduceAdd, Nat.reduceSub, Nat.reduceEqDiff, Nat.reduceLeDiff]
  refine wq_loop_at (fun k σ => ∃ j : Nat, j ≤ l.length ∧ k = l.length - j ∧ σ = slots 23 [(0, .c .one [.sh true (.s 6 (l.map TInode.pv))]), (3, .c .one [.ow false 6 (filling TInode.pv l [.i .i64 0, .i .i64 0, .i .i64 0, .s 1 [], .s 2 [], .s 2 []] j)]), (4, .c .one [.sh false (.i .i64 (j : Nat))])]) l.length (by omega) ?_ ?_
  · simp only [go_sem, Nat.reduceLT, Nat.reduceAdd, Nat.reduceSub, Nat.reduceEqDiff, Nat.reduceLeDiff, fill_zero (pv := TInode.pv)]
    exact ⟨0, Nat.zero_le _, rfl, rfl⟩
  · rintro k σ ⟨j, hj, rfl, rfl⟩
    by_cases hlt : j < l.length
    · have h1 : ((j : Int) < (l.length : Int)) := by omega
      have hv := toInode_ok m (by omega) l[j] (ho _ (List.getElem_mem hlt))
      have hx : l[j]? = some l[j] := List.getElem?_eq_getElem hlt
      generalize l[j] = x at hv hx
      try simp only [go_sem] at hv
      have hs := fill_set (pv := TInode.pv) (z := [.i .i64 0, .i .i64 0, .i .i64 0, .s 1 [], .s 2 [], .s 2 []]) hx
      simp only [go_sem] at hs
      simp only [go_sem, Nat.reduceLT, Nat.reduceAdd, Nat.reduceSub, Nat.reduceEqDiff, Nat.reduceLeDiff, h1, hx, wrap_succ hlt (by omega), hv, fill_get hlt, fill_length hj, hs]
      exact ⟨_, by omega, j + 1, hlt, rfl, rfl⟩
    · have h1 : ¬ ((j : Int) < (l.length : Int)) := by omega
      obtain rfl : j = l.length := by omega
      simp only [go_sem, Nat.reduceLT, Nat.reduceAdd, Nat.reduceSub, Nat.reduceEqDiff, Nat.reduceLeDiff, h1, fill_end]
theorem toTab_ok (n : Nat) (hn : Big + 5 ≤ n) (x : TTab) (hx : x.ok) : pcall env n 87 [.c .agg (x.pv.map argC')] [] = some ⟨.c .agg (x.pv.map frC), []⟩ := by
  obtain ⟨m, rfl⟩ := ex_pred hn
  have c0 := toInodeS_ok m (by omega) x.Inodes hx.Inodes.1 hx.Inodes.2
  try simp only [go_sem] at c0
  refine wq_eq (wq_pcall (fn := Tryz.f87) rfl rfl rfl (Nat.le_of_ble_eq_true rfl) ?_)
  unfold Tryz.f87
  simp only [go_sem, Nat.reduceLT, Nat.reduceAdd, Nat.reduceSub, Nat.reduceEqDiff, Nat.reduceLeDiff, c0]
theorem toVol_ok (n : Nat) (hn : Big + 6 ≤ n) (x : TVol) (hx : x.ok) : pcall env n 57 [.c .agg (x.pv.map argC')] [] = some ⟨.c .agg (x.pv.map frC), []⟩ := by
  obtain ⟨m, rfl⟩ := ex_pred hn
  have c0 := toTab_ok m (by omega) x.T hx.T
  try simp only [go_sem] at c0
  refine wq_eq (wq_pcall (fn := Tryz.f57) rfl rfl rfl (Nat.le_of_ble_eq_true rfl) ?_)
  unfold Tryz.f57
  simp only [go_sem, Nat.reduceLT, Nat.reduceAdd, Nat.reduceSub, Nat.reduceEqDiff, Nat.reduceLeDiff, c0]
theorem toVolS_ok (n : Nat) (hn : Big + 7 ≤ n) (l : List TVol) (ho : ∀ y ∈ l, TVol.ok y) (hl : l.length ≤ Bd) : pcall env n 31 [.c .one [.sh true (.s 6 (l.map TVol.pv))]] [] = some ⟨.c .one [.ow false 6 (l.map TVol.pv)], []⟩ := by
  obtain ⟨m, rfl⟩ := ex_pred hn
  have hB := big_bd
  have hb : Bd = 1048576 := rfl
  refine wq_eq (wq_pcall (fn := Tryz.f31) rfl rfl rfl (Nat.le_of_ble_eq_true rfl) ?_)
  unfold Tryz.f31
  simp only [go_sem, Nat.reduceLT, Nat.reduceAdd, Nat.reduceSub, Nat.reduceEqDiff, Nat.reduceLeDiff]
  refine bq_pos (by unfold LIM; omega) ?_
  simp only [go_sem, Nat.reduceLT, Nat.reduceAdd, Nat.reduceSub, Nat.reduceEqDiff, Nat.reduceLeDiff]
  refine wq_loop_at (fun k σ => ∃ j : Nat, j ≤ l.length ∧ k = l.length - j ∧ σ = slots 23 [(0, .c .one [.sh true (.s 6 (l.map TVol.pv))]), (3, .c .one [.ow false 6 (filling TVol.pv l [.i .i64 0, .t ⟨#[]⟩, .b false, .i .i64 0, .s 6 [], .i .i64 0] j)]), (4, .c .one [.sh false (.i .i64 (j : Nat))])]) l.length (by omega) ?_ ?_
  · simp only [go_sem, Nat.reduceLT, Nat.reduceAdd, Nat.reduceSub, Nat.reduceEqDiff, Nat.reduceLeDiff, fill_zero (pv := TVol.pv)]
    exact ⟨0, Nat.zero_le _, rfl, rfl⟩
  · rintro k σ ⟨j, hj, rfl, rfl⟩
    by_cases hlt : j < l.length
    · have h1 : ((j : Int) < (l.length : Int)) := by omega
      have hv := toVol_ok m (by omega) l[j] (ho _ (List.getElem_mem hlt))
      have hx : l[j]? = some l[j] := List.getElem?_eq_getElem hlt
      generalize l[j] = x at hv hx
      try simp only [go_sem] at hv
      have hs := fill_set (pv := TVol.pv) (z := [.i .i64 0, .t ⟨#[]⟩, .b false, .i .i64 0, .s 6 [], .i .i64 0]) hx
      simp only [go_sem] at hs
      simp only [go_sem, Nat.reduceLT, Nat.reduceAdd, Nat.reduceSub, Nat.reduceEqDiff, Nat.reduceLeDiff, h1, hx, wrap_succ hlt (by omega), hv, fill_get hlt, fill_length hj, hs]
      exact ⟨_, by omega, j + 1, hlt, rfl, rfl⟩
    · have h1 : ¬ ((j : Int) < (l.length : Int)) := by omega
      obtain rfl : j = l.length := by omega
      simp only [go_sem, Nat.reduceLT, Nat.reduceAdd, Nat.reduceSub, Nat.reduceEqDiff, Nat.reduceLeDiff, h1, fill_end]
theorem toFs_ok (n : Nat) (hn : Big + 8 ≤ n) (x : TFs) (hx : x.ok) : pcall env n 16 [.c .agg (x.pv.map argC')] [] = some ⟨.c .agg (x.pv.map frC), []⟩ := by
  obtain ⟨m, rfl⟩ := ex_pred hn
  have c0 := toVolS_ok m (by omega) x.Vols hx.Vols.1 hx.Vols.2
  try simp only [go_sem] at c0
  refine wq_eq (wq_pcall (fn := Tryz.f16) rfl rfl rfl (Nat.le_of_ble_eq_true rfl) ?_)
  unfold Tryz.f16
  simp only [go_sem, Nat.reduceLT, Nat.reduceAdd, Nat.reduceSub, Nat.reduceEqDiff, Nat.reduceLeDiff, c0]
theorem toRow_ok (n : Nat) (hn : Big + 1 ≤ n) (x : TRow) (hx : x.ok) : pcall env n 88 [.c .agg (x.pv.map argC')] [] = some ⟨.c .agg (x.pv.map frC), []⟩ := by
  obtain ⟨m, rfl⟩ := ex_pred hn
  refine wq_eq (wq_pcall (fn := Tryz.f88) rfl rfl rfl (Nat.le_of_ble_eq_true rfl) ?_)
  unfold Tryz.f88
  simp only [go_sem, Nat.reduceLT, Nat.reduceAdd, Nat.reduceSub, Nat.reduceEqDiff, Nat.reduceLeDiff]
theorem toRowS_ok (n : Nat) (hn : Big + 2 ≤ n) (l : List TRow) (ho : ∀ y ∈ l, TRow.ok y) (hl : l.length ≤ Bd) : pcall env n 58 [.c .one [.sh true (.s 5 (l.map TRow.pv))]] [] = some ⟨.c .one [.ow false 5 (l.map TRow.pv)], []⟩ := by
  obtain ⟨m, rfl⟩ := ex_pred hn
  have hB := big_bd
  have hb : Bd = 1048576 := rfl
  refine wq_eq (wq_pcall (fn := Tryz.f58) rfl rfl rfl (Nat.le_of_ble_eq_true rfl) ?_)
  unfold Tryz.f58
  simp only [go_sem, Nat.reduceLT, Nat.reduceAdd, Nat.reduceSub, Nat.reduceEqDiff, Nat.reduceLeDiff]
  refine bq_pos (by unfold LIM; omega) ?_
  simp only [go_sem, Nat.reduceLT, Nat.reduceAdd, Nat.reduceSub, Nat.reduceEqDiff, Nat.reduceLeDiff]
  refine wq_loop_at (fun k σ => ∃ j : Nat, j ≤ l.length ∧ k = l.length - j ∧ σ = slots 23 [(0, .c .one [.sh true (.s 5 (l.map TRow.pv))]), (3, .c .one [.ow false 5 (filling TRow.pv l [.i .i64 0, .t ⟨#[]⟩, .b false, .i .i64 0, .i .i64 0] j)]), (4, .c .one [.sh false (.i .i64 (j : Nat))])]) l.length (by omega) ?_ ?_
  · simp only [go_sem, Nat.reduceLT, Nat.reduceAdd, Nat.reduceSub, Nat.reduceEqDiff, Nat.reduceLeDiff, fill_zero (pv := TRow.pv)]
    exact ⟨0, Nat.zero_le _, rfl, rfl⟩
  · rintro k σ ⟨j, hj, rfl, rfl⟩
    by_cases hlt : j < l.length
    · have h1 : ((j : Int) < (l.length : Int)) := by omega
      have hv := toRow_ok m (by omega) l[j] (ho _ (List.getElem_mem hlt))
      have hx : l[j]? = some l[j] := List.getElem?_eq_getElem hlt
      generalize l[j] = x at hv hx
      try simp only [go_sem] at hv
      have hs := fill_set (pv := TRow.pv) (z := [.i .i64 0, .t ⟨#[]⟩, .b false, .i .i64 0, .i .i64 0]) hx
      simp only [go_sem] at hs
      simp only [go_sem, Nat.reduceLT, Nat.reduceAdd, Nat.reduceSub, Nat.reduceEqDiff, Nat.reduceLeDiff, h1, hx, wrap_succ hlt (by omega), hv, fill_get hlt, fill_length hj, hs]
      exact ⟨_, by omega, j + 1, hlt, rfl, rfl⟩
    · have h1 : ¬ ((j : Int) < (l.length : Int)) := by omega
      obtain rfl : j = l.length := by omega
      simp only [go_sem, Nat.reduceLT, Nat.reduceAdd, Nat.reduceSub, Nat.reduceEqDiff, Nat.reduceLeDiff, h1, fill_end]
theorem toTable_ok (n : Nat) (hn : Big + 3 ≤ n) (x : TTable) (hx : x.ok) : pcall env n 32 [.c .agg (x.pv.map argC')] [] = some ⟨.c .agg (x.pv.map frC), []⟩ := by
  obtain ⟨m, rfl⟩ := ex_pred hn
  have c0 := toRowS_ok m (by omega) x.Rows hx.Rows.1 hx.Rows.2
  try simp only [go_sem] at c0
  refine wq_eq (wq_pcall (fn := Tryz.f32) rfl rfl rfl (Nat.le_of_ble_eq_true rfl) ?_)
  unfold Tryz.f32
  simp only [go_sem, Nat.reduceLT, Nat.reduceAdd, Nat.reduceSub, Nat.reduceEqDiff, Nat.reduceLeDiff, c0]
theorem toPlace_ok (n : Nat) (hn : Big + 1 ≤ n) (x : TPlace) (hx : x.ok) : pcall env n 114 [.c .agg (x.pv.map argC')] [] = some ⟨.c .agg (x.pv.map frC), []⟩ := by
  obtain ⟨m, rfl⟩ := ex_pred hn
  refine wq_eq (wq_pcall (fn := Tryz.f114) rfl rfl rfl (Nat.le_of_ble_eq_true rfl) ?_)
  unfold Tryz.f114
  simp only [go_sem, Nat.reduceLT, Nat.reduceAdd, Nat.reduceSub, Nat.reduceEqDiff, Nat.reduceLeDiff]
theorem toPlaceS_ok (n : Nat) (hn : Big + 2 ≤ n) (l : List TPlace) (ho : ∀ y ∈ l, TPlace.ok y) (hl : l.length ≤ Bd) : pcall env n 89 [.c .one [.sh true (.s 2 (l.map TPlace.pv))]] [] = some ⟨.c .one [.ow false 2 (l.map TPlace.pv)], []⟩ := by
  obtain ⟨m, rfl⟩ := ex_pred hn
  have hB := big_bd
  have hb : Bd = 1048576 := rfl
  refine wq_eq (wq_pcall (fn := Tryz.f89) rfl rfl rfl (Nat.le_of_ble_eq_true rfl) ?_)
  unfold Tryz.f89
  simp only [go_sem, Nat.reduceLT, Nat.reduceAdd, Nat.reduceSub, Nat.reduceEqDiff, Nat.reduceLeDiff]
  refine bq_pos (by unfold LIM; omega) ?_
  simp only [go_sem, Nat.reduceLT, Nat.reduceAdd, Nat.reduceSub, Nat.reduceEqDiff, Nat.reduceLeDiff]
  refine wq_loop_at (fun k σ => ∃ j : Nat, j ≤ l.length ∧ k = l.length - j ∧ σ = slots 23 [(0, .c .one [.sh true (.s 2 (l.map TPlace.pv))]), (3, .c .one [.ow false 2 (filling TPlace.pv l [.i .i64 0, .i .i64 0] j)]), (4, .c .one [.sh false (.i .i64 (j : Nat))])]) l.length (by omega) ?_ ?_
  · simp only [go_sem, Nat.reduceLT, Nat.reduceAdd, Nat.reduceSub, Nat.reduceEqDiff, Nat.reduceLeDiff, fill_zero (pv := TPlace.pv)]
    exact ⟨0, Nat.zero_le _, rfl, rfl⟩
  · rintro k σ ⟨j, hj, rfl, rfl⟩
    by_cases hlt : j < l.length
    · have h1 : ((j : Int) < (l.length : Int)) := by omega
      have hv := toPlace_ok m (by omega) l[j] (ho _ (List.getElem_mem hlt))
      have hx : l[j]? = some l[j] := List.getElem?_eq_getElem hlt
      generalize l[j] = x at hv hx
      try simp only [go_sem] at hv
      have hs := fill_set (pv := TPlace.pv) (z := [.i .i64 0, .i .i64 0]) hx
      simp only [go_sem] at hs
      simp only [go_sem, Nat.reduceLT, Nat.reduceAdd, Nat.reduceSub, Nat.reduceEqDiff, Nat.reduceLeDiff, h1, hx, wrap_succ hlt (by omega), hv, fill_get hlt, fill_length hj, hs]
      exact ⟨_, by omega, j + 1, hlt, rfl, rfl⟩
    · have h1 : ¬ ((j : Int) < (l.length : Int)) := by omega
      obtain rfl : j = l.length := by omega
      simp only [go_sem, Nat.reduceLT, Nat.reduceAdd, Nat.reduceSub, Nat.reduceEqDiff, Nat.reduceLeDiff, h1, fill_end]
theorem toMap_ok (n : Nat) (hn : Big + 3 ≤ n) (x : TMap) (hx : x.ok) : pcall env n 59 [.c .agg (x.pv.map argC')] [] = some ⟨.c .agg (x.pv.map frC), []⟩ := by
  obtain ⟨m, rfl⟩ := ex_pred hn
  have c0 := toPlaceS_ok m (by omega) x.Places hx.Places.1 hx.Places.2
  try simp only [go_sem] at c0
  refine wq_eq (wq_pcall (fn := Tryz.f59) rfl rfl rfl (Nat.le_of_ble_eq_true rfl) ?_)
  unfold Tryz.f59
  simp only [go_sem, Nat.reduceLT, Nat.reduceAdd, Nat.reduceSub, Nat.reduceEqDiff, Nat.reduceLeDiff, c0]
theorem toMapS_ok (n : Nat) (hn : Big + 4 ≤ n) (l : List TMap) (ho : ∀ y ∈ l, TMap.ok y) (hl : l.length ≤ Bd) : pcall env n 33 [.c .one [.sh true (.s 2 (l.map TMap.pv))]] [] = some ⟨.c .one [.ow false 2 (l.map TMap.pv)], []⟩ := by
  obtain ⟨m, rfl⟩ := ex_pred hn
  have hB := big_bd
  have hb : Bd = 1048576 := rfl
  refine wq_eq (wq_pcall (fn := Tryz.f33) rfl rfl rfl (Nat.le_of_ble_eq_true rfl) ?_)
  unfold Tryz.f33
  simp only [go_sem, Nat.reduceLT, Nat.reduceAdd, Nat.reduceSub, Nat.reduceEqDiff, Nat.reduceLeDiff]
  refine bq_pos (by unfold LIM; omega) ?_
  simp only [go_sem, Nat.reduceLT, Nat.reduceAdd, Nat.reduceSub, Nat.reduceEqDiff, Nat.reduceLeDiff]
  refine wq_loop_at (fun k σ => ∃ j : Nat, j ≤ l.length ∧ k = l.length - j ∧ σ = slots 23 [(0, .c .one [.sh true (.s 2 (l.map TMap.pv))]), (3, .c .one [.ow false 2 (filling TMap.pv l [.i .i64 0, .s 2 []] j)]), (4, .c .one [.sh false (.i .i64 (j : Nat))])]) l.length (by omega) ?_ ?_
  · simp only [go_sem, Nat.reduceLT, Nat.reduceAdd, Nat.reduceSub, Nat.reduceEqDiff, Nat.reduceLeDiff, fill_zero (pv := TMap.pv)]
    exact ⟨0, Nat.zero_le _, rfl, rfl⟩
  · rintro k σ ⟨j, hj, rfl, rfl⟩
    by_cases hlt : j < l.length
    · have h1 : ((j : Int) < (l.length : Int)) := by omega
      have hv := toMap_ok m (by omega) l[j] (ho _ (List.getElem_mem hlt))
      have hx : l[j]? = some l[j] := List.getElem?_eq_getElem hlt
      generalize l[j] = x at hv hx
      try simp only [go_sem] at hv
      have hs := fill_set (pv := TMap.pv) (z := [.i .i64 0, .s 2 []]) hx
      simp only [go_sem] at hs
      simp only [go_sem, Nat.reduceLT, Nat.reduceAdd, Nat.reduceSub, Nat.reduceEqDiff, Nat.reduceLeDiff, h1, hx, wrap_succ hlt (by omega), hv, fill_get hlt, fill_length hj, hs]
      exact ⟨_, by omega, j + 1, hlt, rfl, rfl⟩
    · have h1 : ¬ ((j : Int) < (l.length : Int)) := by omega
      obtain rfl : j = l.length := by omega
      simp only [go_sem, Nat.reduceLT, Nat.reduceAdd, Nat.reduceSub, Nat.reduceEqDiff, Nat.reduceLeDiff, h1, fill_end]
theorem toImage_ok (n : Nat) (hn : Big + 9 ≤ n) (x : TImage) (hx : x.ok) : pcall env n 17 [.c .agg (x.pv.map argC')] [] = some ⟨.c .agg (x.pv.map frC), []⟩ := by
  obtain ⟨m, rfl⟩ := ex_pred hn
  have c0 := toFs_ok m (by omega) x.F hx.F
  try simp only [go_sem] at c0
  have c1 := toTable_ok m (by omega) x.T hx.T
  try simp only [go_sem] at c1
  have c2 := toMapS_ok m (by omega) x.Maps hx.Maps.1 hx.Maps.2
  try simp only [go_sem] at c2
  refine wq_eq (wq_pcall (fn := Tryz.f17) rfl rfl rfl (Nat.le_of_ble_eq_true rfl) ?_)
  unfold Tryz.f17
  simp only [go_sem, Nat.reduceLT, Nat.reduceAdd, Nat.reduceSub, Nat.reduceEqDiff, Nat.reduceLeDiff, c0, c1, c2]
theorem toLog_ok (n : Nat) (hn : Big + 8 ≤ n) (x : TLog) (hx : x.ok) : pcall env n 18 [.c .agg (x.pv.map argC')] [] = some ⟨.c .agg (x.pv.map frC), []⟩ := by
  obtain ⟨m, rfl⟩ := ex_pred hn
  have c0 := toDev_ok m (by omega) x.D hx.D
  try simp only [go_sem] at c0
  refine wq_eq (wq_pcall (fn := Tryz.f18) rfl rfl rfl (Nat.le_of_ble_eq_true rfl) ?_)
  unfold Tryz.f18
  simp only [go_sem, Nat.reduceLT, Nat.reduceAdd, Nat.reduceSub, Nat.reduceEqDiff, Nat.reduceLeDiff, c0]
theorem toEng_ok (n : Nat) (hn : Big + 10 ≤ n) (x : TEng) (hx : x.ok) : pcall env n 7 [.c .agg (x.pv.map argC')] [] = some ⟨.c .agg (x.pv.map frC), []⟩ := by
  obtain ⟨m, rfl⟩ := ex_pred hn
  have c0 := toFs_ok m (by omega) x.F hx.F
  try simp only [go_sem] at c0
  have c1 := toImage_ok m (by omega) x.M hx.M
  try simp only [go_sem] at c1
  have c2 := toLog_ok m (by omega) x.L hx.L
  try simp only [go_sem] at c2
  refine wq_eq (wq_pcall (fn := Tryz.f7) rfl rfl rfl (Nat.le_of_ble_eq_true rfl) ?_)
  unfold Tryz.f7
  simp only [go_sem, Nat.reduceLT, Nat.reduceAdd, Nat.reduceSub, Nat.reduceEqDiff, Nat.reduceLeDiff, c0, c1, c2]
end Go.Proofs.YtblelojdboefjaaGreat.R
