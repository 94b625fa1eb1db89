/- What the laws' helpers answer: how much there is, copies, likeness. Printed by genfam.py. -/
import Derived.Test.YticgilhndadkiaaGreatDoorV
import Derived.Test.YticgilhndadkiaaGreatDoorT
import Derived.KernelRfl
set_option maxRecDepth 100000
set_option linter.unusedVariables false
set_option linter.unusedSimpArgs false
namespace Go.Proofs.YticgilhndadkiaaGreatDoor.R
open Go
attribute [go_sem] TTab.pv TFs.pv TInode.pv TVol.pv TEnt.pv TAttr.pv
theorem eqAttr_ok (n : Nat) (hn : Big + 1 ≤ n) (x : TAttr) (hx : x.ok) : pcall env n 83 [.c .agg (x.pv.map argC'), .c .agg (x.pv.map argC')] [] = some ⟨pvSV (.b true), []⟩ := by
  obtain ⟨m, rfl⟩ := ex_pred hn
  refine wq_eq (wq_pcall (fn := Tryz.f83) rfl rfl rfl (Nat.le_of_ble_eq_true rfl) ?_)
  unfold Tryz.f83
  simp only [go_sem, Nat.reduceLT, Nat.reduceAdd, Nat.reduceSub, Nat.reduceEqDiff, Nat.reduceLeDiff]
theorem eqAttrS_ok (n : Nat) (hn : Big + 2 ≤ n) (l : List TAttr) (ho : ∀ y ∈ l, TAttr.ok y) (hl : l.length ≤ Bd) : pcall env n 61 [.c .one [.sh true (.s 2 (l.map TAttr.pv))], .c .one [.sh true (.s 2 (l.map TAttr.pv))]] [] = some ⟨pvSV (.b true), []⟩ := by
  obtain ⟨m, rfl⟩ := ex_pred hn
  have hB := big_bd
  have hb : Bd = 1048576 := rfl
  refine wq_eq (wq_pcall (fn := Tryz.f61) rfl rfl rfl (Nat.le_of_ble_eq_true rfl) ?_)
  unfold Tryz.f61
  simp only [go_sem, Nat.reduceLT, Nat.reduceAdd, Nat.reduceSub, Nat.reduceEqDiff, Nat.reduceLeDiff]
  refine wq_loop_at (fun k σ => ∃ j : Nat, j ≤ l.length ∧ k = l.length - j ∧ σ = slots 27 [(0, .c .one [.sh true (.s 2 (l.map TAttr.pv))]), (1, .c .one [.sh true (.s 2 (l.map TAttr.pv))]), (5, .c .one [.sh false (.i .i64 (j : Nat))])]) l.length (by omega) ?_ ?_
  · simp only [go_sem, Nat.reduceLT, Nat.reduceAdd, Nat.reduceSub, Nat.reduceEqDiff, Nat.reduceLeDiff]
    exact ⟨0, Nat.zero_le _, rfl, rfl⟩
  · rintro k σ ⟨j, hj, rfl, rfl⟩
    by_cases hlt : j < l.length
    · have h1 : ((j : Int) < (l.length : Int)) := by omega
      have hv := eqAttr_ok m (by omega) l[j] (ho _ (List.getElem_mem hlt))
      have hx : l[j]? = some l[j] := List.getElem?_eq_getElem hlt
      generalize l[j] = x at hv hx
      try simp only [go_sem] at hv
      simp only [go_sem, Nat.reduceLT, Nat.reduceAdd, Nat.reduceSub, Nat.reduceEqDiff, Nat.reduceLeDiff, h1, hx, wrap_succ hlt (by omega), hv]
      first | exact ⟨_, by omega, j + 1, hlt, rfl, rfl⟩ | exact chk (by kernel_rfl) ⟨_, by omega, j + 1, hlt, rfl, rfl⟩
    · have h1 : ¬ ((j : Int) < (l.length : Int)) := by omega
      simp only [go_sem, Nat.reduceLT, Nat.reduceAdd, Nat.reduceSub, Nat.reduceEqDiff, Nat.reduceLeDiff, h1]
theorem eqByteS_ok (n : Nat) (hn : Big + 1 ≤ n) (l : List UInt8) (ho : ∀ y ∈ l, okB y) (hl : l.length ≤ Bd) : pcall env n 59 [.c .one [.sh true (.s 1 (l.map bpv))], .c .one [.sh true (.s 1 (l.map bpv))]] [] = some ⟨pvSV (.b true), []⟩ := by
  obtain ⟨m, rfl⟩ := ex_pred hn
  have hB := big_bd
  have hb : Bd = 1048576 := rfl
  refine wq_eq (wq_pcall (fn := Tryz.f59) rfl rfl rfl (Nat.le_of_ble_eq_true rfl) ?_)
  unfold Tryz.f59
  simp only [go_sem, Nat.reduceLT, Nat.reduceAdd, Nat.reduceSub, Nat.reduceEqDiff, Nat.reduceLeDiff]
  refine wq_loop_at (fun k σ => ∃ j : Nat, j ≤ l.length ∧ k = l.length - j ∧ σ = slots 26 [(0, .c .one [.sh true (.s 1 (l.map bpv))]), (1, .c .one [.sh true (.s 1 (l.map bpv))]), (5, .c .one [.sh false (.i .i64 (j : Nat))])]) l.length (by omega) ?_ ?_
  · simp only [go_sem, Nat.reduceLT, Nat.reduceAdd, Nat.reduceSub, Nat.reduceEqDiff, Nat.reduceLeDiff]
    exact ⟨0, Nat.zero_le _, rfl, rfl⟩
  · rintro k σ ⟨j, hj, rfl, rfl⟩
    by_cases hlt : j < l.length
    · have h1 : ((j : Int) < (l.length : Int)) := by omega
      have hx : l[j]? = some l[j] := List.getElem?_eq_getElem hlt
      generalize l[j] = x at hx
      simp only [go_sem, Nat.reduceLT, Nat.reduceAdd, Nat.reduceSub, Nat.reduceEqDiff, Nat.reduceLeDiff, h1, hx, wrap_succ hlt (by omega)]
      first | exact ⟨_, by omega, j + 1, hlt, rfl, rfl⟩ | exact chk (by kernel_rfl) ⟨_, by omega, j + 1, hlt, rfl, rfl⟩
    · have h1 : ¬ ((j : Int) < (l.length : Int)) := by omega
      simp only [go_sem, Nat.reduceLT, Nat.reduceAdd, Nat.reduceSub, Nat.reduceEqDiff, Nat.reduceLeDiff, h1]
theorem eqEnt_ok (n : Nat) (hn : Big + 1 ≤ n) (x : TEnt) (hx : x.ok) : pcall env n 82 [.c .agg (x.pv.map argC'), .c .agg (x.pv.map argC')] [] = some ⟨pvSV (.b true), []⟩ := by
  obtain ⟨m, rfl⟩ := ex_pred hn
  refine wq_eq (wq_pcall (fn := Tryz.f82) rfl rfl rfl (Nat.le_of_ble_eq_true rfl) ?_)
  unfold Tryz.f82
  simp only [go_sem, Nat.reduceLT, Nat.reduceAdd, Nat.reduceSub, Nat.reduceEqDiff, Nat.reduceLeDiff]
theorem eqEntS_ok (n : Nat) (hn : Big + 2 ≤ n) (l : List TEnt) (ho : ∀ y ∈ l, TEnt.ok y) (hl : l.length ≤ Bd) : pcall env n 60 [.c .one [.sh true (.s 2 (l.map TEnt.pv))], .c .one [.sh true (.s 2 (l.map TEnt.pv))]] [] = some ⟨pvSV (.b true), []⟩ := by
  obtain ⟨m, rfl⟩ := ex_pred hn
  have hB := big_bd
  have hb : Bd = 1048576 := rfl
  refine wq_eq (wq_pcall (fn := Tryz.f60) rfl rfl rfl (Nat.le_of_ble_eq_true rfl) ?_)
  unfold Tryz.f60
  simp only [go_sem, Nat.reduceLT, Nat.reduceAdd, Nat.reduceSub, Nat.reduceEqDiff, Nat.reduceLeDiff]
  refine wq_loop_at (fun k σ => ∃ j : Nat, j ≤ l.length ∧ k = l.length - j ∧ σ = slots 27 [(0, .c .one [.sh true (.s 2 (l.map TEnt.pv))]), (1, .c .one [.sh true (.s 2 (l.map TEnt.pv))]), (5, .c .one [.sh false (.i .i64 (j : Nat))])]) l.length (by omega) ?_ ?_
  · simp only [go_sem, Nat.reduceLT, Nat.reduceAdd, Nat.reduceSub, Nat.reduceEqDiff, Nat.reduceLeDiff]
    exact ⟨0, Nat.zero_le _, rfl, rfl⟩
  · rintro k σ ⟨j, hj, rfl, rfl⟩
    by_cases hlt : j < l.length
    · have h1 : ((j : Int) < (l.length : Int)) := by omega
      have hv := eqEnt_ok m (by omega) l[j] (ho _ (List.getElem_mem hlt))
      have hx : l[j]? = some l[j] := List.getElem?_eq_getElem hlt
      generalize l[j] = x at hv hx
      try simp only [go_sem] at hv
      simp only [go_sem, Nat.reduceLT, Nat.reduceAdd, Nat.reduceSub, Nat.reduceEqDiff, Nat.reduceLeDiff, h1, hx, wrap_succ hlt (by omega), hv]
      first | exact ⟨_, by omega, j + 1, hlt, rfl, rfl⟩ | exact chk (by kernel_rfl) ⟨_, by omega, j + 1, hlt, rfl, rfl⟩
    · have h1 : ¬ ((j : Int) < (l.length : Int)) := by omega
      simp only [go_sem, Nat.reduceLT, Nat.reduceAdd, Nat.reduceSub, Nat.reduceEqDiff, Nat.reduceLeDiff, h1]
theorem eqInode_ok (n : Nat) (hn : Big + 3 ≤ n) (x : TInode) (hx : x.ok) : pcall env n 38 [.c .agg (x.pv.map argC'), .c .agg (x.pv.map argC')] [] = some ⟨pvSV (.b true), []⟩ := by
  obtain ⟨m, rfl⟩ := ex_pred hn
  have c0 := eqByteS_ok m (by omega) x.Data hx.Data.1 hx.Data.2
  try simp only [go_sem] at c0
  have c1 := eqEntS_ok m (by omega) x.Ents hx.Ents.1 hx.Ents.2
  try simp only [go_sem] at c1
  have c2 := eqAttrS_ok m (by omega) x.Attrs hx.Attrs.1 hx.Attrs.2
  try simp only [go_sem] at c2
  refine wq_eq (wq_pcall (fn := Tryz.f38) rfl rfl rfl (Nat.le_of_ble_eq_true rfl) ?_)
  unfold Tryz.f38
  simp only [go_sem, Nat.reduceLT, Nat.reduceAdd, Nat.reduceSub, Nat.reduceEqDiff, Nat.reduceLeDiff, c0, c1, c2]
theorem eqInodeS_ok (n : Nat) (hn : Big + 4 ≤ n) (l : List TInode) (ho : ∀ y ∈ l, TInode.ok y) (hl : l.length ≤ Bd) : pcall env n 21 [.c .one [.sh true (.s 6 (l.map TInode.pv))], .c .one [.sh true (.s 6 (l.map TInode.pv))]] [] = some ⟨pvSV (.b true), []⟩ := by
  obtain ⟨m, rfl⟩ := ex_pred hn
  have hB := big_bd
  have hb : Bd = 1048576 := rfl
  refine wq_eq (wq_pcall (fn := Tryz.f21) rfl rfl rfl (Nat.le_of_ble_eq_true rfl) ?_)
  unfold Tryz.f21
  simp only [go_sem, Nat.reduceLT, Nat.reduceAdd, Nat.reduceSub, Nat.reduceEqDiff, Nat.reduceLeDiff]
  refine wq_loop_at (fun k σ => ∃ j : Nat, j ≤ l.length ∧ k = l.length - j ∧ σ = slots 27 [(0, .c .one [.sh true (.s 6 (l.map TInode.pv))]), (1, .c .one [.sh true (.s 6 (l.map TInode.pv))]), (5, .c .one [.sh false (.i .i64 (j : Nat))])]) l.length (by omega) ?_ ?_
  · simp only [go_sem, Nat.reduceLT, Nat.reduceAdd, Nat.reduceSub, Nat.reduceEqDiff, Nat.reduceLeDiff]
    exact ⟨0, Nat.zero_le _, rfl, rfl⟩
  · rintro k σ ⟨j, hj, rfl, rfl⟩
    by_cases hlt : j < l.length
    · have h1 : ((j : Int) < (l.length : Int)) := by omega
      have hv := eqInode_ok m (by omega) l[j] (ho _ (List.getElem_mem hlt))
      have hx : l[j]? = some l[j] := List.getElem?_eq_getElem hlt
      generalize l[j] = x at hv hx
      try simp only [go_sem] at hv
      simp only [go_sem, Nat.reduceLT, Nat.reduceAdd, Nat.reduceSub, Nat.reduceEqDiff, Nat.reduceLeDiff, h1, hx, wrap_succ hlt (by omega), hv]
      first | exact ⟨_, by omega, j + 1, hlt, rfl, rfl⟩ | exact chk (by kernel_rfl) ⟨_, by omega, j + 1, hlt, rfl, rfl⟩
    · have h1 : ¬ ((j : Int) < (l.length : Int)) := by omega
      simp only [go_sem, Nat.reduceLT, Nat.reduceAdd, Nat.reduceSub, Nat.reduceEqDiff, Nat.reduceLeDiff, h1]
theorem eqTab_ok (n : Nat) (hn : Big + 5 ≤ n) (x : TTab) (hx : x.ok) : pcall env n 9 [.c .agg (x.pv.map argC'), .c .agg (x.pv.map argC')] [] = some ⟨pvSV (.b true), []⟩ := by
  obtain ⟨m, rfl⟩ := ex_pred hn
  have c0 := eqInodeS_ok m (by omega) x.Inodes hx.Inodes.1 hx.Inodes.2
  try simp only [go_sem] at c0
  refine wq_eq (wq_pcall (fn := Tryz.f9) rfl rfl rfl (Nat.le_of_ble_eq_true rfl) ?_)
  unfold Tryz.f9
  simp only [go_sem, Nat.reduceLT, Nat.reduceAdd, Nat.reduceSub, Nat.reduceEqDiff, Nat.reduceLeDiff, c0]
theorem eqVol_ok (n : Nat) (hn : Big + 6 ≤ n) (x : TVol) (hx : x.ok) : pcall env n 41 [.c .agg (x.pv.map argC'), .c .agg (x.pv.map argC')] [] = some ⟨pvSV (.b true), []⟩ := by
  obtain ⟨m, rfl⟩ := ex_pred hn
  have c0 := eqTab_ok m (by omega) x.T hx.T
  try simp only [go_sem] at c0
  refine wq_eq (wq_pcall (fn := Tryz.f41) rfl rfl rfl (Nat.le_of_ble_eq_true rfl) ?_)
  unfold Tryz.f41
  simp only [go_sem, Nat.reduceLT, Nat.reduceAdd, Nat.reduceSub, Nat.reduceEqDiff, Nat.reduceLeDiff, c0]
theorem eqVolS_ok (n : Nat) (hn : Big + 7 ≤ n) (l : List TVol) (ho : ∀ y ∈ l, TVol.ok y) (hl : l.length ≤ Bd) : pcall env n 29 [.c .one [.sh true (.s 6 (l.map TVol.pv))], .c .one [.sh true (.s 6 (l.map TVol.pv))]] [] = some ⟨pvSV (.b true), []⟩ := by
  obtain ⟨m, rfl⟩ := ex_pred hn
  have hB := big_bd
  have hb : Bd = 1048576 := rfl
  refine wq_eq (wq_pcall (fn := Tryz.f29) rfl rfl rfl (Nat.le_of_ble_eq_true rfl) ?_)
  unfold Tryz.f29
  simp only [go_sem, Nat.reduceLT, Nat.reduceAdd, Nat.reduceSub, Nat.reduceEqDiff, Nat.reduceLeDiff]
  refine wq_loop_at (fun k σ => ∃ j : Nat, j ≤ l.length ∧ k = l.length - j ∧ σ = slots 27 [(0, .c .one [.sh true (.s 6 (l.map TVol.pv))]), (1, .c .one [.sh true (.s 6 (l.map TVol.pv))]), (5, .c .one [.sh false (.i .i64 (j : Nat))])]) l.length (by omega) ?_ ?_
  · simp only [go_sem, Nat.reduceLT, Nat.reduceAdd, Nat.reduceSub, Nat.reduceEqDiff, Nat.reduceLeDiff]
    exact ⟨0, Nat.zero_le _, rfl, rfl⟩
  · rintro k σ ⟨j, hj, rfl, rfl⟩
    by_cases hlt : j < l.length
    · have h1 : ((j : Int) < (l.length : Int)) := by omega
      have hv := eqVol_ok m (by omega) l[j] (ho _ (List.getElem_mem hlt))
      have hx : l[j]? = some l[j] := List.getElem?_eq_getElem hlt
      generalize l[j] = x at hv hx
      try simp only [go_sem] at hv
      simp only [go_sem, Nat.reduceLT, Nat.reduceAdd, Nat.reduceSub, Nat.reduceEqDiff, Nat.reduceLeDiff, h1, hx, wrap_succ hlt (by omega), hv]
      first | exact ⟨_, by omega, j + 1, hlt, rfl, rfl⟩ | exact chk (by kernel_rfl) ⟨_, by omega, j + 1, hlt, rfl, rfl⟩
    · have h1 : ¬ ((j : Int) < (l.length : Int)) := by omega
      simp only [go_sem, Nat.reduceLT, Nat.reduceAdd, Nat.reduceSub, Nat.reduceEqDiff, Nat.reduceLeDiff, h1]
theorem eqFs_ok (n : Nat) (hn : Big + 8 ≤ n) (x : TFs) (hx : x.ok) : pcall env n 14 [.c .agg (x.pv.map argC'), .c .agg (x.pv.map argC')] [] = some ⟨pvSV (.b true), []⟩ := by
  obtain ⟨m, rfl⟩ := ex_pred hn
  have c0 := eqVolS_ok m (by omega) x.Vols hx.Vols.1 hx.Vols.2
  try simp only [go_sem] at c0
  refine wq_eq (wq_pcall (fn := Tryz.f14) rfl rfl rfl (Nat.le_of_ble_eq_true rfl) ?_)
  unfold Tryz.f14
  simp only [go_sem, Nat.reduceLT, Nat.reduceAdd, Nat.reduceSub, Nat.reduceEqDiff, Nat.reduceLeDiff, c0]
theorem szAttr_ok (n : Nat) (hn : Big + 1 ≤ n) (x : TAttr) (hx : x.ok) : ∃ g : Int → Int, ∀ left, pcall env n 63 [.c .agg (x.pv.map argC'), pvSV (.i .i64 left)] [] = some ⟨pvSV (.i .i64 (g left)), []⟩ := by
  refine skolem_int fun left => ?_
  obtain ⟨m, rfl⟩ := ex_pred hn
  refine wq_int (wq_pcall (fn := Tryz.f63) rfl rfl rfl (Nat.le_of_ble_eq_true rfl) ?_)
  unfold Tryz.f63
  simp only [go_sem, Nat.reduceLT, Nat.reduceAdd, Nat.reduceSub, Nat.reduceEqDiff, Nat.reduceLeDiff]
  repeat' (first | exact ⟨_, rfl⟩ | (refine bq_mk (fun h => ?_) (fun h => ?_) <;> simp only [go_sem, Nat.reduceLT, Nat.reduceAdd, Nat.reduceSub, Nat.reduceEqDiff, Nat.reduceLeDiff]))
theorem szAttrS_ok (n : Nat) (hn : Big + 2 ≤ n) (l : List TAttr) (ho : ∀ y ∈ l, TAttr.ok y) (hl : l.length ≤ Bd) : ∃ g : Int → Int, ∀ left, pcall env n 44 [.c .one [.sh true (.s 2 (l.map TAttr.pv))], pvSV (.i .i64 left)] [] = some ⟨pvSV (.i .i64 (g left)), []⟩ := by
  refine skolem_int fun left => ?_
  obtain ⟨m, rfl⟩ := ex_pred hn
  have hB := big_bd
  have hb : Bd = 1048576 := rfl
  refine wq_int (wq_pcall (fn := Tryz.f44) rfl rfl rfl (Nat.le_of_ble_eq_true rfl) ?_)
  unfold Tryz.f44
  simp only [go_sem, Nat.reduceLT, Nat.reduceAdd, Nat.reduceSub, Nat.reduceEqDiff, Nat.reduceLeDiff]
  refine bq_mk (fun h => ?_) (fun h => ?_) <;> simp only [go_sem, Nat.reduceLT, Nat.reduceAdd, Nat.reduceSub, Nat.reduceEqDiff, Nat.reduceLeDiff]
  · exact ⟨_, rfl⟩
  refine wq_loop_at (fun k σ => ∃ v, ∃ j : Nat, j ≤ l.length ∧ k = l.length - j ∧ σ = slots 27 [(0, .c .one [.sh true (.s 2 (l.map TAttr.pv))]), (1, .c .one [.sh false (.i .i64 v)]), (5, .c .one [.sh false (.i .i64 (j : Nat))])]) l.length (by omega) ?_ ?_
  · simp only [go_sem, Nat.reduceLT, Nat.reduceAdd, Nat.reduceSub, Nat.reduceEqDiff, Nat.reduceLeDiff]
    exact ⟨_, 0, Nat.zero_le _, rfl, rfl⟩
  · rintro k σ ⟨v, j, hj, rfl, rfl⟩
    by_cases hlt : j < l.length
    · have h1 : ((j : Int) < (l.length : Int)) := by omega
      obtain ⟨g, hv⟩ := szAttr_ok m (by omega) l[j] (ho _ (List.getElem_mem hlt))
      have hx : l[j]? = some l[j] := List.getElem?_eq_getElem hlt
      generalize l[j] = x at hv hx
      try simp only [go_sem] at hv
      simp only [go_sem, Nat.reduceLT, Nat.reduceAdd, Nat.reduceSub, Nat.reduceEqDiff, Nat.reduceLeDiff, h1, hx, wrap_succ hlt (by omega), hv]
      refine bq_mk (fun h => ?_) (fun h => ?_) <;> simp only [go_sem, Nat.reduceLT, Nat.reduceAdd, Nat.reduceSub, Nat.reduceEqDiff, Nat.reduceLeDiff, h1, hx, wrap_succ hlt (by omega), hv]
      · exact ⟨_, rfl⟩
      · exact ⟨_, by omega, _, j + 1, hlt, rfl, rfl⟩
    · have h1 : ¬ ((j : Int) < (l.length : Int)) := by omega
      simp only [go_sem, Nat.reduceLT, Nat.reduceAdd, Nat.reduceSub, Nat.reduceEqDiff, Nat.reduceLeDiff, h1]
      exact ⟨_, rfl⟩
theorem szByteS_ok (n : Nat) (hn : Big + 1 ≤ n) (l : List UInt8) (ho : ∀ y ∈ l, okB y) (hl : l.length ≤ Bd) : ∃ g : Int → Int, ∀ left, pcall env n 42 [.c .one [.sh true (.s 1 (l.map bpv))], pvSV (.i .i64 left)] [] = some ⟨pvSV (.i .i64 (g left)), []⟩ := by
  refine skolem_int fun left => ?_
  obtain ⟨m, rfl⟩ := ex_pred hn
  have hB := big_bd
  have hb : Bd = 1048576 := rfl
  refine wq_int (wq_pcall (fn := Tryz.f42) rfl rfl rfl (Nat.le_of_ble_eq_true rfl) ?_)
  unfold Tryz.f42
  simp only [go_sem, Nat.reduceLT, Nat.reduceAdd, Nat.reduceSub, Nat.reduceEqDiff, Nat.reduceLeDiff]
  repeat' (first | exact ⟨_, rfl⟩ | (refine bq_mk (fun h => ?_) (fun h => ?_) <;> simp only [go_sem, Nat.reduceLT, Nat.reduceAdd, Nat.reduceSub, Nat.reduceEqDiff, Nat.reduceLeDiff]))
theorem szEnt_ok (n : Nat) (hn : Big + 1 ≤ n) (x : TEnt) (hx : x.ok) : ∃ g : Int → Int, ∀ left, pcall env n 62 [.c .agg (x.pv.map argC'), pvSV (.i .i64 left)] [] = some ⟨pvSV (.i .i64 (g left)), []⟩ := by
  refine skolem_int fun left => ?_
  obtain ⟨m, rfl⟩ := ex_pred hn
  refine wq_int (wq_pcall (fn := Tryz.f62) rfl rfl rfl (Nat.le_of_ble_eq_true rfl) ?_)
  unfold Tryz.f62
  simp only [go_sem, Nat.reduceLT, Nat.reduceAdd, Nat.reduceSub, Nat.reduceEqDiff, Nat.reduceLeDiff]
  repeat' (first | exact ⟨_, rfl⟩ | (refine bq_mk (fun h => ?_) (fun h => ?_) <;> simp only [go_sem, Nat.reduceLT, Nat.reduceAdd, Nat.reduceSub, Nat.reduceEqDiff, Nat.reduceLeDiff]))
theorem szEntS_ok (n : Nat) (hn : Big + 2 ≤ n) (l : List TEnt) (ho : ∀ y ∈ l, TEnt.ok y) (hl : l.length ≤ Bd) : ∃ g : Int → Int, ∀ left, pcall env n 43 [.c .one [.sh true (.s 2 (l.map TEnt.pv))], pvSV (.i .i64 left)] [] = some ⟨pvSV (.i .i64 (g left)), []⟩ := by
  refine skolem_int fun left => ?_
  obtain ⟨m, rfl⟩ := ex_pred hn
  have hB := big_bd
  have hb : Bd = 1048576 := rfl
  refine wq_int (wq_pcall (fn := Tryz.f43) rfl rfl rfl (Nat.le_of_ble_eq_true rfl) ?_)
  unfold Tryz.f43
  simp only [go_sem, Nat.reduceLT, Nat.reduceAdd, Nat.reduceSub, Nat.reduceEqDiff, Nat.reduceLeDiff]
  refine bq_mk (fun h => ?_) (fun h => ?_) <;> simp only [go_sem, Nat.reduceLT, Nat.reduceAdd, Nat.reduceSub, Nat.reduceEqDiff, Nat.reduceLeDiff]
  · exact ⟨_, rfl⟩
  refine wq_loop_at (fun k σ => ∃ v, ∃ j : Nat, j ≤ l.length ∧ k = l.length - j ∧ σ = slots 27 [(0, .c .one [.sh true (.s 2 (l.map TEnt.pv))]), (1, .c .one [.sh false (.i .i64 v)]), (5, .c .one [.sh false (.i .i64 (j : Nat))])]) l.length (by omega) ?_ ?_
  · simp only [go_sem, Nat.reduceLT, Nat.reduceAdd, Nat.reduceSub, Nat.reduceEqDiff, Nat.reduceLeDiff]
    exact ⟨_, 0, Nat.zero_le _, rfl, rfl⟩
  · rintro k σ ⟨v, j, hj, rfl, rfl⟩
    by_cases hlt : j < l.length
    · have h1 : ((j : Int) < (l.length : Int)) := by omega
      obtain ⟨g, hv⟩ := szEnt_ok m (by omega) l[j] (ho _ (List.getElem_mem hlt))
      have hx : l[j]? = some l[j] := List.getElem?_eq_getElem hlt
      generalize l[j] = x at hv hx
      try simp only [go_sem] at hv
      simp only [go_sem, Nat.reduceLT, Nat.reduceAdd, Nat.reduceSub, Nat.reduceEqDiff, Nat.reduceLeDiff, h1, hx, wrap_succ hlt (by omega), hv]
      refine bq_mk (fun h => ?_) (fun h => ?_) <;> simp only [go_sem, Nat.reduceLT, Nat.reduceAdd, Nat.reduceSub, Nat.reduceEqDiff, Nat.reduceLeDiff, h1, hx, wrap_succ hlt (by omega), hv]
      · exact ⟨_, rfl⟩
      · exact ⟨_, by omega, _, j + 1, hlt, rfl, rfl⟩
    · have h1 : ¬ ((j : Int) < (l.length : Int)) := by omega
      simp only [go_sem, Nat.reduceLT, Nat.reduceAdd, Nat.reduceSub, Nat.reduceEqDiff, Nat.reduceLeDiff, h1]
      exact ⟨_, rfl⟩
theorem szInode_ok (n : Nat) (hn : Big + 3 ≤ n) (x : TInode) (hx : x.ok) : ∃ g : Int → Int, ∀ left, pcall env n 30 [.c .agg (x.pv.map argC'), pvSV (.i .i64 left)] [] = some ⟨pvSV (.i .i64 (g left)), []⟩ := by
  refine skolem_int fun left => ?_
  obtain ⟨m, rfl⟩ := ex_pred hn
  obtain ⟨g0, c0⟩ := szByteS_ok m (by omega) x.Data hx.Data.1 hx.Data.2
  try simp only [go_sem] at c0
  obtain ⟨g1, c1⟩ := szEntS_ok m (by omega) x.Ents hx.Ents.1 hx.Ents.2
  try simp only [go_sem] at c1
  obtain ⟨g2, c2⟩ := szAttrS_ok m (by omega) x.Attrs hx.Attrs.1 hx.Attrs.2
  try simp only [go_sem] at c2
  refine wq_int (wq_pcall (fn := Tryz.f30) rfl rfl rfl (Nat.le_of_ble_eq_true rfl) ?_)
  unfold Tryz.f30
  simp only [go_sem, Nat.reduceLT, Nat.reduceAdd, Nat.reduceSub, Nat.reduceEqDiff, Nat.reduceLeDiff, c0, c1, c2]
  repeat' (first | exact ⟨_, rfl⟩ | (refine bq_mk (fun h => ?_) (fun h => ?_) <;> simp only [go_sem, Nat.reduceLT, Nat.reduceAdd, Nat.reduceSub, Nat.reduceEqDiff, Nat.reduceLeDiff, c0, c1, c2]))
theorem szInodeS_ok (n : Nat) (hn : Big + 4 ≤ n) (l : List TInode) (ho : ∀ y ∈ l, TInode.ok y) (hl : l.length ≤ Bd) : ∃ g : Int → Int, ∀ left, pcall env n 15 [.c .one [.sh true (.s 6 (l.map TInode.pv))], pvSV (.i .i64 left)] [] = some ⟨pvSV (.i .i64 (g left)), []⟩ := by
  refine skolem_int fun left => ?_
  obtain ⟨m, rfl⟩ := ex_pred hn
  have hB := big_bd
  have hb : Bd = 1048576 := rfl
  refine wq_int (wq_pcall (fn := Tryz.f15) rfl rfl rfl (Nat.le_of_ble_eq_true rfl) ?_)
  unfold Tryz.f15
  simp only [go_sem, Nat.reduceLT, Nat.reduceAdd, Nat.reduceSub, Nat.reduceEqDiff, Nat.reduceLeDiff]
  refine bq_mk (fun h => ?_) (fun h => ?_) <;> simp only [go_sem, Nat.reduceLT, Nat.reduceAdd, Nat.reduceSub, Nat.reduceEqDiff, Nat.reduceLeDiff]
  · exact ⟨_, rfl⟩
  refine wq_loop_at (fun k σ => ∃ v, ∃ j : Nat, j ≤ l.length ∧ k = l.length - j ∧ σ = slots 27 [(0, .c .one [.sh true (.s 6 (l.map TInode.pv))]), (1, .c .one [.sh false (.i .i64 v)]), (5, .c .one [.sh false (.i .i64 (j : Nat))])]) l.length (by omega) ?_ ?_
  · simp only [go_sem, Nat.reduceLT, Nat.reduceAdd, Nat.reduceSub, Nat.reduceEqDiff, Nat.reduceLeDiff]
    exact ⟨_, 0, Nat.zero_le _, rfl, rfl⟩
  · rintro k σ ⟨v, j, hj, rfl, rfl⟩
    by_cases hlt : j < l.length
    · have h1 : ((j : Int) < (l.length : Int)) := by omega
      obtain ⟨g, hv⟩ := szInode_ok m (by omega) l[j] (ho _ (List.getElem_mem hlt))
      have hx : l[j]? = some l[j] := List.getElem?_eq_getElem hlt
      generalize l[j] = x at hv hx
      try simp only [go_sem] at hv
      simp only [go_sem, Nat.reduceLT, Nat.reduceAdd, Nat.reduceSub, Nat.reduceEqDiff, Nat.reduceLeDiff, h1, hx, wrap_succ hlt (by omega), hv]
      refine bq_mk (fun h => ?_) (fun h => ?_) <;> simp only [go_sem, Nat.reduceLT, Nat.reduceAdd, Nat.reduceSub, Nat.reduceEqDiff, Nat.reduceLeDiff, h1, hx, wrap_succ hlt (by omega), hv]
      · exact ⟨_, rfl⟩
      · exact ⟨_, by omega, _, j + 1, hlt, rfl, rfl⟩
    · have h1 : ¬ ((j : Int) < (l.length : Int)) := by omega
      simp only [go_sem, Nat.reduceLT, Nat.reduceAdd, Nat.reduceSub, Nat.reduceEqDiff, Nat.reduceLeDiff, h1]
      exact ⟨_, rfl⟩
theorem szTab_ok (n : Nat) (hn : Big + 5 ≤ n) (x : TTab) (hx : x.ok) : ∃ g : Int → Int, ∀ left, pcall env n 5 [.c .agg (x.pv.map argC'), pvSV (.i .i64 left)] [] = some ⟨pvSV (.i .i64 (g left)), []⟩ := by
  refine skolem_int fun left => ?_
  obtain ⟨m, rfl⟩ := ex_pred hn
  obtain ⟨g0, c0⟩ := szInodeS_ok m (by omega) x.Inodes hx.Inodes.1 hx.Inodes.2
  try simp only [go_sem] at c0
  refine wq_int (wq_pcall (fn := Tryz.f5) rfl rfl rfl (Nat.le_of_ble_eq_true rfl) ?_)
  unfold Tryz.f5
  simp only [go_sem, Nat.reduceLT, Nat.reduceAdd, Nat.reduceSub, Nat.reduceEqDiff, Nat.reduceLeDiff, c0]
  repeat' (first | exact ⟨_, rfl⟩ | (refine bq_mk (fun h => ?_) (fun h => ?_) <;> simp only [go_sem, Nat.reduceLT, Nat.reduceAdd, Nat.reduceSub, Nat.reduceEqDiff, Nat.reduceLeDiff, c0]))
theorem szVol_ok (n : Nat) (hn : Big + 6 ≤ n) (x : TVol) (hx : x.ok) : ∃ g : Int → Int, ∀ left, pcall env n 39 [.c .agg (x.pv.map argC'), pvSV (.i .i64 left)] [] = some ⟨pvSV (.i .i64 (g left)), []⟩ := by
  refine skolem_int fun left => ?_
  obtain ⟨m, rfl⟩ := ex_pred hn
  obtain ⟨g0, c0⟩ := szTab_ok m (by omega) x.T hx.T
  try simp only [go_sem] at c0
  refine wq_int (wq_pcall (fn := Tryz.f39) rfl rfl rfl (Nat.le_of_ble_eq_true rfl) ?_)
  unfold Tryz.f39
  simp only [go_sem, Nat.reduceLT, Nat.reduceAdd, Nat.reduceSub, Nat.reduceEqDiff, Nat.reduceLeDiff, c0]
  repeat' (first | exact ⟨_, rfl⟩ | (refine bq_mk (fun h => ?_) (fun h => ?_) <;> simp only [go_sem, Nat.reduceLT, Nat.reduceAdd, Nat.reduceSub, Nat.reduceEqDiff, Nat.reduceLeDiff, c0]))
theorem szVolS_ok (n : Nat) (hn : Big + 7 ≤ n) (l : List TVol) (ho : ∀ y ∈ l, TVol.ok y) (hl : l.length ≤ Bd) : ∃ g : Int → Int, ∀ left, pcall env n 22 [.c .one [.sh true (.s 6 (l.map TVol.pv))], pvSV (.i .i64 left)] [] = some ⟨pvSV (.i .i64 (g left)), []⟩ := by
  refine skolem_int fun left => ?_
  obtain ⟨m, rfl⟩ := ex_pred hn
  have hB := big_bd
  have hb : Bd = 1048576 := rfl
  refine wq_int (wq_pcall (fn := Tryz.f22) rfl rfl rfl (Nat.le_of_ble_eq_true rfl) ?_)
  unfold Tryz.f22
  simp only [go_sem, Nat.reduceLT, Nat.reduceAdd, Nat.reduceSub, Nat.reduceEqDiff, Nat.reduceLeDiff]
  refine bq_mk (fun h => ?_) (fun h => ?_) <;> simp only [go_sem, Nat.reduceLT, Nat.reduceAdd, Nat.reduceSub, Nat.reduceEqDiff, Nat.reduceLeDiff]
  · exact ⟨_, rfl⟩
  refine wq_loop_at (fun k σ => ∃ v, ∃ j : Nat, j ≤ l.length ∧ k = l.length - j ∧ σ = slots 27 [(0, .c .one [.sh true (.s 6 (l.map TVol.pv))]), (1, .c .one [.sh false (.i .i64 v)]), (5, .c .one [.sh false (.i .i64 (j : Nat))])]) l.length (by omega) ?_ ?_
  · simp only [go_sem, Nat.reduceLT, Nat.reduceAdd, Nat.reduceSub, Nat.reduceEqDiff, Nat.reduceLeDiff]
    exact ⟨_, 0, Nat.zero_le _, rfl, rfl⟩
  · rintro k σ ⟨v, j, hj, rfl, rfl⟩
    by_cases hlt : j < l.length
    · have h1 : ((j : Int) < (l.length : Int)) := by omega
      obtain ⟨g, hv⟩ := szVol_ok m (by omega) l[j] (ho _ (List.getElem_mem hlt))
      have hx : l[j]? = some l[j] := List.getElem?_eq_getElem hlt
      generalize l[j] = x at hv hx
      try simp only [go_sem] at hv
      simp only [go_sem, Nat.reduceLT, Nat.reduceAdd, Nat.reduceSub, Nat.reduceEqDiff, Nat.reduceLeDiff, h1, hx, wrap_succ hlt (by omega), hv]
      refine bq_mk (fun h => ?_) (fun h => ?_) <;> simp only [go_sem, Nat.reduceLT, Nat.reduceAdd, Nat.reduceSub, Nat.reduceEqDiff, Nat.reduceLeDiff, h1, hx, wrap_succ hlt (by omega), hv]
      · exact ⟨_, rfl⟩
      · exact ⟨_, by omega, _, j + 1, hlt, rfl, rfl⟩
    · have h1 : ¬ ((j : Int) < (l.length : Int)) := by omega
      simp only [go_sem, Nat.reduceLT, Nat.reduceAdd, Nat.reduceSub, Nat.reduceEqDiff, Nat.reduceLeDiff, h1]
      exact ⟨_, rfl⟩
theorem szFs_ok (n : Nat) (hn : Big + 8 ≤ n) (x : TFs) (hx : x.ok) : ∃ g : Int → Int, ∀ left, pcall env n 10 [.c .agg (x.pv.map argC'), pvSV (.i .i64 left)] [] = some ⟨pvSV (.i .i64 (g left)), []⟩ := by
  refine skolem_int fun left => ?_
  obtain ⟨m, rfl⟩ := ex_pred hn
  obtain ⟨g0, c0⟩ := szVolS_ok m (by omega) x.Vols hx.Vols.1 hx.Vols.2
  try simp only [go_sem] at c0
  refine wq_int (wq_pcall (fn := Tryz.f10) rfl rfl rfl (Nat.le_of_ble_eq_true rfl) ?_)
  unfold Tryz.f10
  simp only [go_sem, Nat.reduceLT, Nat.reduceAdd, Nat.reduceSub, Nat.reduceEqDiff, Nat.reduceLeDiff, c0]
  repeat' (first | exact ⟨_, rfl⟩ | (refine bq_mk (fun h => ?_) (fun h => ?_) <;> simp only [go_sem, Nat.reduceLT, Nat.reduceAdd, Nat.reduceSub, Nat.reduceEqDiff, Nat.reduceLeDiff, c0]))
theorem toAttr_ok (n : Nat) (hn : Big + 1 ≤ n) (x : TAttr) (hx : x.ok) : pcall env n 72 [.c .agg (x.pv.map argC')] [] = some ⟨.c .agg (x.pv.map frC), []⟩ := by
  obtain ⟨m, rfl⟩ := ex_pred hn
  refine wq_eq (wq_pcall (fn := Tryz.f72) rfl rfl rfl (Nat.le_of_ble_eq_true rfl) ?_)
  unfold Tryz.f72
  simp only [go_sem, Nat.reduceLT, Nat.reduceAdd, Nat.reduceSub, Nat.reduceEqDiff, Nat.reduceLeDiff]
theorem toAttrS_ok (n : Nat) (hn : Big + 2 ≤ n) (l : List TAttr) (ho : ∀ y ∈ l, TAttr.ok y) (hl : l.length ≤ Bd) : pcall env n 52 [.c .one [.sh true (.s 2 (l.map TAttr.pv))]] [] = some ⟨.c .one [.ow false 2 (l.map TAttr.pv)], []⟩ := by
  obtain ⟨m, rfl⟩ := ex_pred hn
  have hB := big_bd
  have hb : Bd = 1048576 := rfl
  refine wq_eq (wq_pcall (fn := Tryz.f52) rfl rfl rfl (Nat.le_of_ble_eq_true rfl) ?_)
  unfold Tryz.f52
  simp only [go_sem, Nat.reduceLT, Nat.reduceAdd, Nat.reduceSub, Nat.reduceEqDiff, Nat.reduceLeDiff]
  refine bq_pos (by unfold LIM; omega) ?_
  simp only [go_sem, Nat.reduceLT, Nat.reduceAdd, Nat.reduceSub, Nat.reduceEqDiff, Nat.reduceLeDiff]
  refine wq_loop_at (fun k σ => ∃ j : Nat, j ≤ l.length ∧ k = l.length - j ∧ σ = slots 23 [(0, .c .one [.sh true (.s 2 (l.map TAttr.pv))]), (3, .c .one [.ow false 2 (filling TAttr.pv l [.t ⟨#[]⟩, .t ⟨#[]⟩] j)]), (4, .c .one [.sh false (.i .i64 (j : Nat))])]) l.length (by omega) ?_ ?_
  · simp only [go_sem, Nat.reduceLT, Nat.reduceAdd, Nat.reduceSub, Nat.reduceEqDiff, Nat.reduceLeDiff, fill_zero (pv := TAttr.pv)]
    exact ⟨0, Nat.zero_le _, rfl, rfl⟩
  · rintro k σ ⟨j, hj, rfl, rfl⟩
    by_cases hlt : j < l.length
    · have h1 : ((j : Int) < (l.length : Int)) := by omega
      have hv := toAttr_ok m (by omega) l[j] (ho _ (List.getElem_mem hlt))
      have hx : l[j]? = some l[j] := List.getElem?_eq_getElem hlt
      generalize l[j] = x at hv hx
      try simp only [go_sem] at hv
      have hs := fill_set (pv := TAttr.pv) (z := [.t ⟨#[]⟩, .t ⟨#[]⟩]) hx
      simp only [go_sem] at hs
      simp only [go_sem, Nat.reduceLT, Nat.reduceAdd, Nat.reduceSub, Nat.reduceEqDiff, Nat.reduceLeDiff, h1, hx, wrap_succ hlt (by omega), hv, fill_get hlt, fill_length hj, hs]
      exact ⟨_, by omega, j + 1, hlt, rfl, rfl⟩
    · have h1 : ¬ ((j : Int) < (l.length : Int)) := by omega
      obtain rfl : j = l.length := by omega
      simp only [go_sem, Nat.reduceLT, Nat.reduceAdd, Nat.reduceSub, Nat.reduceEqDiff, Nat.reduceLeDiff, h1, fill_end]
theorem toByteS_ok (n : Nat) (hn : Big + 1 ≤ n) (l : List UInt8) (ho : ∀ y ∈ l, okB y) (hl : l.length ≤ Bd) : pcall env n 50 [.c .one [.sh true (.s 1 (l.map bpv))]] [] = some ⟨.c .one [.ow false 1 (l.map bpv)], []⟩ := by
  obtain ⟨m, rfl⟩ := ex_pred hn
  have hB := big_bd
  have hb : Bd = 1048576 := rfl
  refine wq_eq (wq_pcall (fn := Tryz.f50) rfl rfl rfl (Nat.le_of_ble_eq_true rfl) ?_)
  unfold Tryz.f50
  simp only [go_sem, Nat.reduceLT, Nat.reduceAdd, Nat.reduceSub, Nat.reduceEqDiff, Nat.reduceLeDiff]
  refine bq_pos (by unfold LIM; omega) ?_
  simp only [go_sem, Nat.reduceLT, Nat.reduceAdd, Nat.reduceSub, Nat.reduceEqDiff, Nat.reduceLeDiff]
  refine wq_loop_at (fun k σ => ∃ j : Nat, j ≤ l.length ∧ k = l.length - j ∧ σ = slots 22 [(0, .c .one [.sh true (.s 1 (l.map bpv))]), (3, .c .one [.ow false 1 (filling bpv l [.i .u8 0] j)]), (4, .c .one [.sh false (.i .i64 (j : Nat))])]) l.length (by omega) ?_ ?_
  · simp only [go_sem, Nat.reduceLT, Nat.reduceAdd, Nat.reduceSub, Nat.reduceEqDiff, Nat.reduceLeDiff, fill_zero (pv := bpv)]
    exact ⟨0, Nat.zero_le _, rfl, rfl⟩
  · rintro k σ ⟨j, hj, rfl, rfl⟩
    by_cases hlt : j < l.length
    · have h1 : ((j : Int) < (l.length : Int)) := by omega
      have hx : l[j]? = some l[j] := List.getElem?_eq_getElem hlt
      generalize l[j] = x at hx
      have hs := fill_set (pv := bpv) (z := [.i .u8 0]) hx
      simp only [go_sem] at hs
      simp only [go_sem, Nat.reduceLT, Nat.reduceAdd, Nat.reduceSub, Nat.reduceEqDiff, Nat.reduceLeDiff, h1, hx, wrap_succ hlt (by omega), fill_get hlt, fill_length hj, hs]
      exact ⟨_, by omega, j + 1, hlt, rfl, rfl⟩
    · have h1 : ¬ ((j : Int) < (l.length : Int)) := by omega
      obtain rfl : j = l.length := by omega
      simp only [go_sem, Nat.reduceLT, Nat.reduceAdd, Nat.reduceSub, Nat.reduceEqDiff, Nat.reduceLeDiff, h1, fill_end]
theorem toEnt_ok (n : Nat) (hn : Big + 1 ≤ n) (x : TEnt) (hx : x.ok) : pcall env n 71 [.c .agg (x.pv.map argC')] [] = some ⟨.c .agg (x.pv.map frC), []⟩ := by
  obtain ⟨m, rfl⟩ := ex_pred hn
  refine wq_eq (wq_pcall (fn := Tryz.f71) rfl rfl rfl (Nat.le_of_ble_eq_true rfl) ?_)
  unfold Tryz.f71
  simp only [go_sem, Nat.reduceLT, Nat.reduceAdd, Nat.reduceSub, Nat.reduceEqDiff, Nat.reduceLeDiff]
theorem toEntS_ok (n : Nat) (hn : Big + 2 ≤ n) (l : List TEnt) (ho : ∀ y ∈ l, TEnt.ok y) (hl : l.length ≤ Bd) : pcall env n 51 [.c .one [.sh true (.s 2 (l.map TEnt.pv))]] [] = some ⟨.c .one [.ow false 2 (l.map TEnt.pv)], []⟩ := by
  obtain ⟨m, rfl⟩ := ex_pred hn
  have hB := big_bd
  have hb : Bd = 1048576 := rfl
  refine wq_eq (wq_pcall (fn := Tryz.f51) rfl rfl rfl (Nat.le_of_ble_eq_true rfl) ?_)
  unfold Tryz.f51
  simp only [go_sem, Nat.reduceLT, Nat.reduceAdd, Nat.reduceSub, Nat.reduceEqDiff, Nat.reduceLeDiff]
  refine bq_pos (by unfold LIM; omega) ?_
  simp only [go_sem, Nat.reduceLT, Nat.reduceAdd, Nat.reduceSub, Nat.reduceEqDiff, Nat.reduceLeDiff]
  refine wq_loop_at (fun k σ => ∃ j : Nat, j ≤ l.length ∧ k = l.length - j ∧ σ = slots 23 [(0, .c .one [.sh true (.s 2 (l.map TEnt.pv))]), (3, .c .one [.ow false 2 (filling TEnt.pv l [.t ⟨#[]⟩, .i .i64 0] j)]), (4, .c .one [.sh false (.i .i64 (j : Nat))])]) l.length (by omega) ?_ ?_
  · simp only [go_sem, Nat.reduceLT, Nat.reduceAdd, Nat.reduceSub, Nat.reduceEqDiff, Nat.reduceLeDiff, fill_zero (pv := TEnt.pv)]
    exact ⟨0, Nat.zero_le _, rfl, rfl⟩
  · rintro k σ ⟨j, hj, rfl, rfl⟩
    by_cases hlt : j < l.length
    · have h1 : ((j : Int) < (l.length : Int)) := by omega
      have hv := toEnt_ok m (by omega) l[j] (ho _ (List.getElem_mem hlt))
      have hx : l[j]? = some l[j] := List.getElem?_eq_getElem hlt
      generalize l[j] = x at hv hx
      try simp only [go_sem] at hv
      have hs := fill_set (pv := TEnt.pv) (z := [.t ⟨#[]⟩, .i .i64 0]) hx
      simp only [go_sem] at hs
      simp only [go_sem, Nat.reduceLT, Nat.reduceAdd, Nat.reduceSub, Nat.reduceEqDiff, Nat.reduceLeDiff, h1, hx, wrap_succ hlt (by omega), hv, fill_get hlt, fill_length hj, hs]
      exact ⟨_, by omega, j + 1, hlt, rfl, rfl⟩
    · have h1 : ¬ ((j : Int) < (l.length : Int)) := by omega
      obtain rfl : j = l.length := by omega
      simp only [go_sem, Nat.reduceLT, Nat.reduceAdd, Nat.reduceSub, Nat.reduceEqDiff, Nat.reduceLeDiff, h1, fill_end]
theorem toInode_ok (n : Nat) (hn : Big + 3 ≤ n) (x : TInode) (hx : x.ok) : pcall env n 34 [.c .agg (x.pv.map argC')] [] = some ⟨.c .agg (x.pv.map frC), []⟩ := by
  obtain ⟨m, rfl⟩ := ex_pred hn
  have c0 := toByteS_ok m (by omega) x.Data hx.Data.1 hx.Data.2
  try simp only [go_sem] at c0
  have c1 := toEntS_ok m (by omega) x.Ents hx.Ents.1 hx.Ents.2
  try simp only [go_sem] at c1
  have c2 := toAttrS_ok m (by omega) x.Attrs hx.Attrs.1 hx.Attrs.2
  try simp only [go_sem] at c2
  refine wq_eq (wq_pcall (fn := Tryz.f34) rfl rfl rfl (Nat.le_of_ble_eq_true rfl) ?_)
  unfold Tryz.f34
  simp only [go_sem, Nat.reduceLT, Nat.reduceAdd, Nat.reduceSub, Nat.reduceEqDiff, Nat.reduceLeDiff, c0, c1, c2]
theorem toInodeS_ok (n : Nat) (hn : Big + 4 ≤ n) (l : List TInode) (ho : ∀ y ∈ l, TInode.ok y) (hl : l.length ≤ Bd) : pcall env n 18 [.c .one [.sh true (.s 6 (l.map TInode.pv))]] [] = some ⟨.c .one [.ow false 6 (l.map TInode.pv)], []⟩ := by
  obtain ⟨m, rfl⟩ := ex_pred hn
  have hB := big_bd
  have hb : Bd = 1048576 := rfl
  refine wq_eq (wq_pcall (fn := Tryz.f18) rfl rfl rfl (Nat.le_of_ble_eq_true rfl) ?_)
  unfold Tryz.f18
  simp only [go_sem, Nat.reduceLT, Nat.reduceAdd, Nat.reduceSub, Nat.reduceEqDiff, Nat.reduceLeDiff]
  refine bq_pos (by unfold LIM; omega) ?_
  simp only [go_sem, Nat.reduceLT, Nat.reduceAdd, Nat.reduceSub, Nat.reduceEqDiff, Nat.reduceLeDiff]
  refine wq_loop_at (fun k σ => ∃ j : Nat, j ≤ l.length ∧ k = l.length - j ∧ σ = slots 23 [(0, .c .one [.sh true (.s 6 (l.map TInode.pv))]), (3, .c .one [.ow false 6 (filling TInode.pv l [.i .i64 0, .i .i64 0, .i .i64 0, .s 1 [], .s 2 [], .s 2 []] j)]), (4, .c .one [.sh false (.i .i64 (j : Nat))])]) l.length (by omega) ?_ ?_
  · simp only [go_sem, Nat.reduceLT, Nat.reduceAdd, Nat.reduceSub, Nat.reduceEqDiff, Nat.reduceLeDiff, fill_zero (pv := TInode.pv)]
    exact ⟨0, Nat.zero_le _, rfl, rfl⟩
  · rintro k σ ⟨j, hj, rfl, rfl⟩
    by_cases hlt : j < l.length
    · have h1 : ((j : Int) < (l.length : Int)) := by omega
      have hv := toInode_ok m (by omega) l[j] (ho _ (List.getElem_mem hlt))
      have hx : l[j]? = some l[j] := List.getElem?_eq_getElem hlt
      generalize l[j] = x at hv hx
      try simp only [go_sem] at hv
      have hs := fill_set (pv := TInode.pv) (z := [.i .i64 0, .i .i64 0, .i .i64 0, .s 1 [], .s 2 [], .s 2 []]) hx
      simp only [go_sem] at hs
      simp only [go_sem, Nat.reduceLT, Nat.reduceAdd, Nat.reduceSub, Nat.reduceEqDiff, Nat.reduceLeDiff, h1, hx, wrap_succ hlt (by omega), hv, fill_get hlt, fill_length hj, hs]
      exact ⟨_, by omega, j + 1, hlt, rfl, rfl⟩
    · have h1 : ¬ ((j : Int) < (l.length : Int)) := by omega
      obtain rfl : j = l.length := by omega
      simp only [go_sem, Nat.reduceLT, Nat.reduceAdd, Nat.reduceSub, Nat.reduceEqDiff, Nat.reduceLeDiff, h1, fill_end]
theorem toTab_ok (n : Nat) (hn : Big + 5 ≤ n) (x : TTab) (hx : x.ok) : pcall env n 7 [.c .agg (x.pv.map argC')] [] = some ⟨.c .agg (x.pv.map frC), []⟩ := by
  obtain ⟨m, rfl⟩ := ex_pred hn
  have c0 := toInodeS_ok m (by omega) x.Inodes hx.Inodes.1 hx.Inodes.2
  try simp only [go_sem] at c0
  refine wq_eq (wq_pcall (fn := Tryz.f7) rfl rfl rfl (Nat.le_of_ble_eq_true rfl) ?_)
  unfold Tryz.f7
  simp only [go_sem, Nat.reduceLT, Nat.reduceAdd, Nat.reduceSub, Nat.reduceEqDiff, Nat.reduceLeDiff, c0]
theorem toVol_ok (n : Nat) (hn : Big + 6 ≤ n) (x : TVol) (hx : x.ok) : pcall env n 40 [.c .agg (x.pv.map argC')] [] = some ⟨.c .agg (x.pv.map frC), []⟩ := by
  obtain ⟨m, rfl⟩ := ex_pred hn
  have c0 := toTab_ok m (by omega) x.T hx.T
  try simp only [go_sem] at c0
  refine wq_eq (wq_pcall (fn := Tryz.f40) rfl rfl rfl (Nat.le_of_ble_eq_true rfl) ?_)
  unfold Tryz.f40
  simp only [go_sem, Nat.reduceLT, Nat.reduceAdd, Nat.reduceSub, Nat.reduceEqDiff, Nat.reduceLeDiff, c0]
theorem toVolS_ok (n : Nat) (hn : Big + 7 ≤ n) (l : List TVol) (ho : ∀ y ∈ l, TVol.ok y) (hl : l.length ≤ Bd) : pcall env n 26 [.c .one [.sh true (.s 6 (l.map TVol.pv))]] [] = some ⟨.c .one [.ow false 6 (l.map TVol.pv)], []⟩ := by
  obtain ⟨m, rfl⟩ := ex_pred hn
  have hB := big_bd
  have hb : Bd = 1048576 := rfl
  refine wq_eq (wq_pcall (fn := Tryz.f26) rfl rfl rfl (Nat.le_of_ble_eq_true rfl) ?_)
  unfold Tryz.f26
  simp only [go_sem, Nat.reduceLT, Nat.reduceAdd, Nat.reduceSub, Nat.reduceEqDiff, Nat.reduceLeDiff]
  refine bq_pos (by unfold LIM; omega) ?_
  simp only [go_sem, Nat.reduceLT, Nat.reduceAdd, Nat.reduceSub, Nat.reduceEqDiff, Nat.reduceLeDiff]
  refine wq_loop_at (fun k σ => ∃ j : Nat, j ≤ l.length ∧ k = l.length - j ∧ σ = slots 23 [(0, .c .one [.sh true (.s 6 (l.map TVol.pv))]), (3, .c .one [.ow false 6 (filling TVol.pv l [.i .i64 0, .t ⟨#[]⟩, .b false, .i .i64 0, .s 6 [], .i .i64 0] j)]), (4, .c .one [.sh false (.i .i64 (j : Nat))])]) l.length (by omega) ?_ ?_
  · simp only [go_sem, Nat.reduceLT, Nat.reduceAdd, Nat.reduceSub, Nat.reduceEqDiff, Nat.reduceLeDiff, fill_zero (pv := TVol.pv)]
    exact ⟨0, Nat.zero_le _, rfl, rfl⟩
  · rintro k σ ⟨j, hj, rfl, rfl⟩
    by_cases hlt : j < l.length
    · have h1 : ((j : Int) < (l.length : Int)) := by omega
      have hv := toVol_ok m (by omega) l[j] (ho _ (List.getElem_mem hlt))
      have hx : l[j]? = some l[j] := List.getElem?_eq_getElem hlt
      generalize l[j] = x at hv hx
      try simp only [go_sem] at hv
      have hs := fill_set (pv := TVol.pv) (z := [.i .i64 0, .t ⟨#[]⟩, .b false, .i .i64 0, .s 6 [], .i .i64 0]) hx
      simp only [go_sem] at hs
      simp only [go_sem, Nat.reduceLT, Nat.reduceAdd, Nat.reduceSub, Nat.reduceEqDiff, Nat.reduceLeDiff, h1, hx, wrap_succ hlt (by omega), hv, fill_get hlt, fill_length hj, hs]
      exact ⟨_, by omega, j + 1, hlt, rfl, rfl⟩
    · have h1 : ¬ ((j : Int) < (l.length : Int)) := by omega
      obtain rfl : j = l.length := by omega
      simp only [go_sem, Nat.reduceLT, Nat.reduceAdd, Nat.reduceSub, Nat.reduceEqDiff, Nat.reduceLeDiff, h1, fill_end]
theorem toFs_ok (n : Nat) (hn : Big + 8 ≤ n) (x : TFs) (hx : x.ok) : pcall env n 12 [.c .agg (x.pv.map argC')] [] = some ⟨.c .agg (x.pv.map frC), []⟩ := by
  obtain ⟨m, rfl⟩ := ex_pred hn
  have c0 := toVolS_ok m (by omega) x.Vols hx.Vols.1 hx.Vols.2
  try simp only [go_sem] at c0
  refine wq_eq (wq_pcall (fn := Tryz.f12) rfl rfl rfl (Nat.le_of_ble_eq_true rfl) ?_)
  unfold Tryz.f12
  simp only [go_sem, Nat.reduceLT, Nat.reduceAdd, Nat.reduceSub, Nat.reduceEqDiff, Nat.reduceLeDiff, c0]
end Go.Proofs.YticgilhndadkiaaGreatDoor.R
