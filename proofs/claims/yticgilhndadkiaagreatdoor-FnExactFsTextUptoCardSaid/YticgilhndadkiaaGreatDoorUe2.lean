/- Tables: what both programs ask of them. -/
import Derived.Test.YticgilhndadkiaaGreatDoorUd
set_option maxRecDepth 100000
set_option linter.unusedVariables false
set_option linter.unusedSimpArgs false
namespace Go.Proofs.YticgilhndadkiaaGreatDoor.R
open Go

/-- Is an inode right where it lies? -/
def nodeOne (next : Int) (prev : Option TInode) (x : TInode) : Bool := inodeB x && !(decide (x.Ino ≥ next)) && (match prev with
  | some y => !(decide (y.Ino ≥ x.Ino))
  | none => true)
def nodeAt (l : List TInode) (next : Int) (i : Nat) : Bool := match l[i]? with
  | some x => nodeOne next (if i = 0 then none else l[i - 1]?) x
  | none => true
theorem nodeAt_0 {l : List TInode} {next : Int} {j : Nat} {a : TInode} (h : l[j]? = some a) (h0 : j = 0) : nodeAt l next j = (inodeB a && !(decide (a.Ino ≥ next))) := by
  simp only [nodeAt, h, nodeOne, if_pos h0, Bool.and_true]
theorem nodeAt_s {l : List TInode} {next : Int} {j : Nat} {a y : TInode} (h : l[j]? = some a) (h0 : j ≠ 0) (hy : l[j - 1]? = some y) : nodeAt l next j = (inodeB a && !(decide (a.Ino ≥ next)) && !(decide (y.Ino ≥ a.Ino))) := by
  simp only [nodeAt, h, nodeOne, if_neg h0, hy]
theorem nodeAt_1 {l : List TInode} {next : Int} {j : Nat} {a : TInode} (h : l[j]? = some a) (hb : inodeB a = false) : nodeAt l next j = false := by
  simp only [nodeAt, h, nodeOne, hb, Bool.false_and]
theorem nodeAt_2 {l : List TInode} {next : Int} {j : Nat} {a : TInode} (h : l[j]? = some a) (hb : a.Ino ≥ next) : nodeAt l next j = false := by
  simp only [nodeAt, h, nodeOne, decide_eq_true hb, Bool.not_true, Bool.and_false, Bool.false_and]

def nodesB (t : TTab) : Bool := allB t.Inodes.length (nodeAt t.Inodes t.Next)
def rootI (t : TTab) : Bool := match t.Inodes.find? (fun x => x.Ino == 1) with
  | some x => x.Kind == 2
  | none => false
def rootS (t : TTab) : Bool := match t.Inodes[0]? with
  | some x => (x.Ino == 1) && (x.Kind == 2)
  | none => false
def tabI (t : TTab) : Bool := !(decide ((t.Inodes.length : Int) > 30)) && inB t.Next 2 1000 && nodesB t && rootI t
def tabS (t : TTab) : Bool := inB t.Inodes.length 1 30 && inB t.Next 2 1000 && nodesB t && rootS t
set_option maxHeartbeats 4000000 in
theorem tabImpl_ok (n : Nat) (hn : Big + 8 ≤ n) (t : TTab) (ht : t.ok) : pcall env n 73 [.c .agg (t.pv.map argC')] [] = some ⟨pvSV (.b (tabI t)), []⟩ := by
  obtain ⟨m, rfl⟩ := ex_pred hn
  have hB := big_bd
  have hbd : Bd = 1048576 := rfl
  have hin := fun a b c => from_ok m (deep hn (by decide)) a b c
  simp only [go_sem] at hin
  have hl := ht.Inodes.2
  have ho := ht.Inodes.1
  refine wq_eq (wq_pcall (fn := Tryz.f73) rfl rfl rfl (Nat.le_of_ble_eq_true rfl) ?_)
  unfold Tryz.f73
  by_cases b1 : (t.Inodes.length : Int) > 30
  · have e : tabI t = false := by unfold tabI; simp [b1]
    rw [e]
    simp only [go_sem, Nat.reduceLT, Nat.reduceAdd, Nat.reduceSub, Nat.reduceEqDiff, Nat.reduceLeDiff, Int.reduceEq, Int.reduceBEq, Int.reduceBNe, Int.reduceNeg, UInt8.reduceToNat, b1] <;> exact chk1 (by kernel_rfl)
  cases b2 : inB t.Next 2 1000 with
  | false =>
    have e : tabI t = false := by unfold tabI; simp [b2]
    rw [e]
    unfold inB at b2
    simp only [go_sem, Nat.reduceLT, Nat.reduceAdd, Nat.reduceSub, Nat.reduceEqDiff, Nat.reduceLeDiff, Int.reduceEq, Int.reduceBEq, Int.reduceBNe, Int.reduceNeg, UInt8.reduceToNat, b1, hin, b2] <;> exact chk1 (by kernel_rfl)
  | true =>
  have b2' := b2
  unfold inB at b2
  simp only [go_sem, Nat.reduceLT, Nat.reduceAdd, Nat.reduceSub, Nat.reduceEqDiff, Nat.reduceLeDiff, Int.reduceEq, Int.reduceBEq, Int.reduceBNe, Int.reduceNeg, UInt8.reduceToNat, b1, hin, b2]
  refine wq_loop_at (fun k σ => ∃ j : Nat, j ≤ t.Inodes.length ∧ k = t.Inodes.length - j ∧ (∀ i, i < j → nodeAt t.Inodes t.Next i = true) ∧ σ = slots 63 [(1, .c .box [.sh true (.s 6 (t.Inodes.map TInode.pv)), .sh false (.i .i64 t.Next)]), (18, .c .one [.sh true (.s 6 (t.Inodes.map TInode.pv))]), (19, .c .one [.sh false (.i .i64 (t.Inodes.length : Nat))]), (20, .c .one [.sh false (.i .i64 (j : Nat))])]) t.Inodes.length (by omega) ?_ ?_
  · simp only [go_sem, Nat.reduceLT, Nat.reduceAdd, Nat.reduceSub, Nat.reduceEqDiff, Nat.reduceLeDiff, Int.reduceEq, Int.reduceBEq, Int.reduceBNe, Int.reduceNeg, UInt8.reduceToNat]
    exact ⟨0, Nat.zero_le _, rfl, fun i hi => absurd hi (Nat.not_lt_zero _), rfl⟩
  · rintro k σ ⟨j, hj, rfl, hp, rfl⟩
    by_cases hlt : j < t.Inodes.length
    · have h1 : ((j : Int) < (t.Inodes.length : Int)) := by omega
      have hx : t.Inodes[j]? = some t.Inodes[j] := List.getElem?_eq_getElem hlt
      have hok := ho _ (List.getElem_mem hlt)
      generalize t.Inodes[j] = a at hx hok
      have hc := inodeImpl_ok m (deep hn (by decide)) a hok
      simp only [go_sem] at hc
      have step : nodeAt t.Inodes t.Next j = true → ∀ i, i < j + 1 → nodeAt t.Inodes t.Next i = true := fun e i hi => by
        rcases Nat.lt_succ_iff_lt_or_eq.1 hi with h | h
        · exact hp i h
        · subst h; exact e
      have bad : nodeAt t.Inodes t.Next j = false → tabI t = false := fun e => by
        have : nodesB t = false := by unfold nodesB; rw [allB_bad hlt e]
        unfold tabI; simp [this]
      cases d1 : inodeB a with
      | false =>
        rw [bad (nodeAt_1 hx d1)]
        simp only [go_sem, Nat.reduceLT, Nat.reduceAdd, Nat.reduceSub, Nat.reduceEqDiff, Nat.reduceLeDiff, Int.reduceEq, Int.reduceBEq, Int.reduceBNe, Int.reduceNeg, UInt8.reduceToNat, h1, hx, hc, d1] <;> exact chk1 (by kernel_rfl)
      | true =>
        by_cases d2 : a.Ino ≥ t.Next
        · rw [bad (nodeAt_2 hx d2)]
          simp only [go_sem, Nat.reduceLT, Nat.reduceAdd, Nat.reduceSub, Nat.reduceEqDiff, Nat.reduceLeDiff, Int.reduceEq, Int.reduceBEq, Int.reduceBNe, Int.reduceNeg, UInt8.reduceToNat, h1, hx, hc, d1, d2] <;> exact chk1 (by kernel_rfl)
        · by_cases h0 : j = 0
          · have e := nodeAt_0 (next := t.Next) hx h0
            rw [d1, decide_eq_false d2] at e
            have hgt : ¬ ((j : Int) > 0) := by omega
            simp only [go_sem, Nat.reduceLT, Nat.reduceAdd, Nat.reduceSub, Nat.reduceEqDiff, Nat.reduceLeDiff, Int.reduceEq, Int.reduceBEq, Int.reduceBNe, Int.reduceNeg, UInt8.reduceToNat, h1, hx, hc, d1, d2, hgt, wrap_succ hlt (by omega)]
            exact chk (by kernel_rfl) ⟨_, by omega, j + 1, hlt, rfl, step e, rfl⟩
          · have hgt : ((j : Int) > 0) := by omega
            have hy : t.Inodes[j - 1]? = some t.Inodes[j - 1] := List.getElem?_eq_getElem (by omega)
            generalize t.Inodes[j - 1] = y at hy
            have e := nodeAt_s (next := t.Next) hx h0 hy
            rw [d1, decide_eq_false d2] at e
            obtain ⟨j', hj'⟩ : ∃ j', j' = j - 1 := ⟨_, rfl⟩
            rw [← hj'] at hy
            have ws : IntKind.i64.wrap ((j : Int) - 1) = (j' : Int) := by rw [wrap_in (by omega) (by omega)]; omega
            by_cases d3 : y.Ino ≥ a.Ino
            · rw [bad (by rw [e, decide_eq_true d3]; rfl)]
              simp only [go_sem, Nat.reduceLT, Nat.reduceAdd, Nat.reduceSub, Nat.reduceEqDiff, Nat.reduceLeDiff, Int.reduceEq, Int.reduceBEq, Int.reduceBNe, Int.reduceNeg, UInt8.reduceToNat, h1, hx, hc, d1, d2, hgt, ws, hy, d3, wrap_succ hlt (by omega)] <;> exact chk1 (by kernel_rfl)
            · have e' : nodeAt t.Inodes t.Next j = true := by rw [e, decide_eq_false d3]; rfl
              simp only [go_sem, Nat.reduceLT, Nat.reduceAdd, Nat.reduceSub, Nat.reduceEqDiff, Nat.reduceLeDiff, Int.reduceEq, Int.reduceBEq, Int.reduceBNe, Int.reduceNeg, UInt8.reduceToNat, h1, hx, hc, d1, d2, hgt, ws, hy, d3, wrap_succ hlt (by omega)]
              exact chk (by kernel_rfl) ⟨_, by omega, j + 1, hlt, rfl, step e', rfl⟩
    · have h1 : ¬ ((j : Int) < (t.Inodes.length : Int)) := by omega
      obtain rfl : j = t.Inodes.length := by omega
      have be : nodesB t = true := by unfold nodesB; exact allB_all hp
      have e : tabI t = rootI t := by unfold tabI; rw [decide_eq_false b1, b2', be]; simp
      rw [e]
      have hat := inodeAtImpl_ok m (deep hn (by decide)) t ht 1
      simp only [go_sem] at hat
      unfold atC at hat
      unfold rootI
      cases hf : t.Inodes.find? (fun x => x.Ino == 1) with
      | none =>
        rw [hf] at hat
        simp only [go_sem, nodeZ] at hat
        simp only [go_sem, Nat.reduceLT, Nat.reduceAdd, Nat.reduceSub, Nat.reduceEqDiff, Nat.reduceLeDiff, Int.reduceEq, Int.reduceBEq, Int.reduceBNe, Int.reduceNeg, UInt8.reduceToNat, h1, hat]
      | some x =>
        rw [hf] at hat
        simp only [go_sem, nodeC] at hat
        simp only [go_sem, Nat.reduceLT, Nat.reduceAdd, Nat.reduceSub, Nat.reduceEqDiff, Nat.reduceLeDiff, Int.reduceEq, Int.reduceBEq, Int.reduceBNe, Int.reduceNeg, UInt8.reduceToNat, h1, hat]
set_option maxHeartbeats 4000000 in
theorem tabSpec_ok (n : Nat) (hn : Big + 8 ≤ n) (t : TTab) (ht : t.ok) : pcall env n 64 [.c .agg (t.pv.map argC')] [] = some ⟨pvSV (.b (tabS t)), []⟩ := by
  obtain ⟨m, rfl⟩ := ex_pred hn
  have hB := big_bd
  have hbd : Bd = 1048576 := rfl
  have hin := fun a b c => l1In_ok m (deep hn (by decide)) a b c
  simp only [go_sem] at hin
  have hl := ht.Inodes.2
  have ho := ht.Inodes.1
  refine wq_eq (wq_pcall (fn := Tryz.f64) rfl rfl rfl (Nat.le_of_ble_eq_true rfl) ?_)
  unfold Tryz.f64
  cases b1 : inB t.Inodes.length 1 30 with
  | false =>
    have e : tabS t = false := by unfold tabS; simp [b1]
    rw [e]
    unfold inB at b1
    simp only [go_sem, Nat.reduceLT, Nat.reduceAdd, Nat.reduceSub, Nat.reduceEqDiff, Nat.reduceLeDiff, Int.reduceEq, Int.reduceBEq, Int.reduceBNe, Int.reduceNeg, UInt8.reduceToNat, hin, b1] <;> exact chk1 (by kernel_rfl)
  | true =>
  have b1' := b1
  unfold inB at b1
  cases b2 : inB t.Next 2 1000 with
  | false =>
    have e : tabS t = false := by unfold tabS; simp [b2]
    rw [e]
    unfold inB at b2
    simp only [go_sem, Nat.reduceLT, Nat.reduceAdd, Nat.reduceSub, Nat.reduceEqDiff, Nat.reduceLeDiff, Int.reduceEq, Int.reduceBEq, Int.reduceBNe, Int.reduceNeg, UInt8.reduceToNat, hin, b1, b2] <;> exact chk1 (by kernel_rfl)
  | true =>
  have b2' := b2
  unfold inB at b2
  simp only [go_sem, Nat.reduceLT, Nat.reduceAdd, Nat.reduceSub, Nat.reduceEqDiff, Nat.reduceLeDiff, Int.reduceEq, Int.reduceBEq, Int.reduceBNe, Int.reduceNeg, UInt8.reduceToNat, hin, b1, b2]
  refine wq_loop_at (fun k σ => ∃ j : Nat, j ≤ t.Inodes.length ∧ k = t.Inodes.length - j ∧ (∀ i, i < j → nodeAt t.Inodes t.Next i = true) ∧ σ = slots 68 [(1, .c .box [.sh true (.s 6 (t.Inodes.map TInode.pv)), .sh false (.i .i64 t.Next)]), (3, .c .one [.sh false (.i .i64 (j : Nat))])]) t.Inodes.length (by omega) ?_ ?_
  · simp only [go_sem, Nat.reduceLT, Nat.reduceAdd, Nat.reduceSub, Nat.reduceEqDiff, Nat.reduceLeDiff, Int.reduceEq, Int.reduceBEq, Int.reduceBNe, Int.reduceNeg, UInt8.reduceToNat]
    exact ⟨0, Nat.zero_le _, rfl, fun i hi => absurd hi (Nat.not_lt_zero _), rfl⟩
  · rintro k σ ⟨j, hj, rfl, hp, rfl⟩
    by_cases hlt : j < t.Inodes.length
    · have h1 : ((j : Int) < (t.Inodes.length : Int)) := by omega
      have hx : t.Inodes[j]? = some t.Inodes[j] := List.getElem?_eq_getElem hlt
      have hok := ho _ (List.getElem_mem hlt)
      generalize t.Inodes[j] = a at hx hok
      have hc := inodeSpec_ok m (deep hn (by decide)) a hok
      simp only [go_sem] at hc
      have step : nodeAt t.Inodes t.Next j = true → ∀ i, i < j + 1 → nodeAt t.Inodes t.Next i = true := fun e i hi => by
        rcases Nat.lt_succ_iff_lt_or_eq.1 hi with h | h
        · exact hp i h
        · subst h; exact e
      have bad : nodeAt t.Inodes t.Next j = false → tabS t = false := fun e => by
        have : nodesB t = false := by unfold nodesB; rw [allB_bad hlt e]
        unfold tabS; simp [this]
      cases d1 : inodeB a with
      | false =>
        rw [bad (nodeAt_1 hx d1)]
        simp only [go_sem, Nat.reduceLT, Nat.reduceAdd, Nat.reduceSub, Nat.reduceEqDiff, Nat.reduceLeDiff, Int.reduceEq, Int.reduceBEq, Int.reduceBNe, Int.reduceNeg, UInt8.reduceToNat, h1, hx, hc, d1] <;> exact chk1 (by kernel_rfl)
      | true =>
        by_cases d2 : a.Ino ≥ t.Next
        · rw [bad (nodeAt_2 hx d2)]
          simp only [go_sem, Nat.reduceLT, Nat.reduceAdd, Nat.reduceSub, Nat.reduceEqDiff, Nat.reduceLeDiff, Int.reduceEq, Int.reduceBEq, Int.reduceBNe, Int.reduceNeg, UInt8.reduceToNat, h1, hx, hc, d1, d2] <;> exact chk1 (by kernel_rfl)
        · by_cases h0 : j = 0
          · have e := nodeAt_0 (next := t.Next) hx h0
            rw [d1, decide_eq_false d2] at e
            have hgt : ¬ ((j : Int) > 0) := by omega
            simp only [go_sem, Nat.reduceLT, Nat.reduceAdd, Nat.reduceSub, Nat.reduceEqDiff, Nat.reduceLeDiff, Int.reduceEq, Int.reduceBEq, Int.reduceBNe, Int.reduceNeg, UInt8.reduceToNat, h1, hx, hc, d1, d2, hgt, wrap_succ hlt (by omega)]
            exact chk (by kernel_rfl) ⟨_, by omega, j + 1, hlt, rfl, step e, rfl⟩
          · have hgt : ((j : Int) > 0) := by omega
            have hy : t.Inodes[j - 1]? = some t.Inodes[j - 1] := List.getElem?_eq_getElem (by omega)
            generalize t.Inodes[j - 1] = y at hy
            have e := nodeAt_s (next := t.Next) hx h0 hy
            rw [d1, decide_eq_false d2] at e
            obtain ⟨j', hj'⟩ : ∃ j', j' = j - 1 := ⟨_, rfl⟩
            rw [← hj'] at hy
            have ws : IntKind.i64.wrap ((j : Int) - 1) = (j' : Int) := by rw [wrap_in (by omega) (by omega)]; omega
            by_cases d3 : y.Ino ≥ a.Ino
            · rw [bad (by rw [e, decide_eq_true d3]; rfl)]
              simp only [go_sem, Nat.reduceLT, Nat.reduceAdd, Nat.reduceSub, Nat.reduceEqDiff, Nat.reduceLeDiff, Int.reduceEq, Int.reduceBEq, Int.reduceBNe, Int.reduceNeg, UInt8.reduceToNat, h1, hx, hc, d1, d2, hgt, ws, hy, d3, wrap_succ hlt (by omega)] <;> exact chk1 (by kernel_rfl)
            · have e' : nodeAt t.Inodes t.Next j = true := by rw [e, decide_eq_false d3]; rfl
              simp only [go_sem, Nat.reduceLT, Nat.reduceAdd, Nat.reduceSub, Nat.reduceEqDiff, Nat.reduceLeDiff, Int.reduceEq, Int.reduceBEq, Int.reduceBNe, Int.reduceNeg, UInt8.reduceToNat, h1, hx, hc, d1, d2, hgt, ws, hy, d3, wrap_succ hlt (by omega)]
              exact chk (by kernel_rfl) ⟨_, by omega, j + 1, hlt, rfl, step e', rfl⟩
    · have h1 : ¬ ((j : Int) < (t.Inodes.length : Int)) := by omega
      obtain rfl : j = t.Inodes.length := by omega
      have be : nodesB t = true := by unfold nodesB; exact allB_all hp
      have e : tabS t = rootS t := by unfold tabS; rw [b1', b2', be]; simp
      rw [e]
      have hlen : 0 < t.Inodes.length := by
        simp only [Bool.and_eq_true, decide_eq_true_eq] at b1; omega
      have hx : t.Inodes[0]? = some t.Inodes[0] := List.getElem?_eq_getElem hlen
      unfold rootS
      generalize t.Inodes[0] = a at hx
      rw [hx]
      cases d : (a.Ino == 1) <;> simp only [go_sem, Nat.reduceLT, Nat.reduceAdd, Nat.reduceSub, Nat.reduceEqDiff, Nat.reduceLeDiff, Int.reduceEq, Int.reduceBEq, Int.reduceBNe, Int.reduceNeg, UInt8.reduceToNat, h1, hx, d]

theorem allB_get {n : Nat} {p : Nat → Bool} (h : allB n p = true) {i : Nat} (hi : i < n) : p i = true := by
  unfold allB at h
  rw [List.all_eq_true] at h
  exact h i (List.mem_range.2 hi)
theorem node_low {l : List TInode} {next : Int} (h : allB l.length (nodeAt l next) = true) : ∀ (i : Nat) (x : TInode), l[i]? = some x → x.Ino ≥ (i : Int) + 1
  | 0, x, hx => by
    have hi := (List.getElem?_eq_some_iff.1 hx).1
    have h1 := allB_get h hi
    rw [nodeAt_0 hx rfl] at h1
    have h2 : inodeB x = true := by
      cases e : inodeB x with
      | true => rfl
      | false => rw [e] at h1; simp at h1
    unfold inodeB inB at h2
    simp only [Bool.and_eq_true, decide_eq_true_eq] at h2
    have := h2.1.1.1.1.1.1
    omega
  | i + 1, x, hx => by
    have hi := (List.getElem?_eq_some_iff.1 hx).1
    have hy : l[i]? = some l[i] := List.getElem?_eq_getElem (by omega)
    have ih := node_low h i _ hy
    have h1 := allB_get h hi
    rw [nodeAt_s hx (by omega) hy] at h1
    simp only [Bool.and_eq_true, Bool.not_eq_true', decide_eq_false_iff_not] at h1
    have := h1.2
    omega
theorem tab_eq (t : TTab) : tabI t = tabS t := by
  unfold tabI tabS
  cases hn : nodesB t with
  | false => simp
  | true =>
    unfold nodesB at hn
    have hlow := node_low hn
    cases hl : t.Inodes with
    | nil =>
      have : rootI t = false := by unfold rootI; rw [hl]; rfl
      rw [this]
      simp [inB]
    | cons a l =>
      have h1 : inB ((a :: l).length : Nat) 1 30 = !(decide (((a :: l).length : Int) > 30)) := by
        unfold inB
        rw [show decide (((a :: l).length : Int) ≥ 1) = true from decide_eq_true (by simp only [List.length_cons]; omega), Bool.true_and]
        by_cases h : ((a :: l).length : Int) ≤ 30
        · rw [decide_eq_true h, decide_eq_false (by omega)]; rfl
        · rw [decide_eq_false h, decide_eq_true (by omega)]; rfl
      have h2 : rootI t = rootS t := by
        unfold rootI rootS
        rw [hl]
        simp only [List.getElem?_cons_zero]
        cases ha : (a.Ino == 1) with
        | true => simp [ha]
        | false =>
          have : l.find? (fun x => x.Ino == 1) = none := by
            rw [List.find?_eq_none]
            intro x hx hc
            obtain ⟨i, hi⟩ := List.getElem?_of_mem hx
            have := hlow (i + 1) x (by rw [hl]; simpa using hi)
            have hc' : x.Ino = 1 := by simpa using hc
            omega
          simp [ha, this]
      rw [h1, h2]

end Go.Proofs.YticgilhndadkiaaGreatDoor.R
