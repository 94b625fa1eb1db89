/- Where the volumes of an image lead. -/
import Derived.Test.YtblelojdboefjaaGreatNb
set_option maxRecDepth 100000
set_option linter.unusedVariables false
set_option linter.unusedSimpArgs false
namespace Go.Proofs.YtblelojdboefjaaGreat.R
open Go

/-- A row of whole numbers of its place's own; one that all may read. -/
def opv (l : List Int) : List PV := [.o 1 (l.map ipv)]
def lpv (l : List Int) : List PV := [.s 1 (l.map ipv)]
instance : FlatF lpv := .mk' fun _ => rfl
theorem er_opv {l : List (List Int)} : erRows (l.map opv) = l.map lpv := by
  rw [erRows_map]; congr 1; funext x; simp only [opv, lpv, go_sem]
attribute [go_sem] opv er_opv

theorem set_opv {ls : List (List Int)} {i : Nat} {l : List Int} : (ls.map opv).set i [.o 1 (l.map ipv)] = (ls.set i l).map opv := by
  rw [List.map_set]; rfl
theorem set_opv1 {ls : List (List Int)} {i : Nat} {l : List Int} {a : Int} : (ls.map opv).set i [.o 1 (l.map ipv ++ [[.i .i64 a]])] = (ls.set i (l ++ [a])).map opv := by
  rw [List.map_set, opv, List.map_append]; rfl

/-- The leads of a volume by its row; by its map. -/
def byRow (x : TImage) (i : Nat) : List Int := match x.T.Rows[i]? with
  | some r => [r.Map]
  | none => []
def byMap (x : TImage) (i : Nat) : List Int := match x.Maps[i]? with
  | some p => p.Places.map TPlace.Addr
  | none => []
/-- Behind a rows and b maps. -/
def leadG (x : TImage) (a b : Nat) : List (List Int) := (List.range (max x.T.Rows.length x.Maps.length)).map fun i => (if i < a then byRow x i else []) ++ (if i < b then byMap x i else [])
theorem leadG_len {x : TImage} {a b : Nat} : (leadG x a b).length = max x.T.Rows.length x.Maps.length := by simp [leadG]
theorem leadG_zero {x : TImage} : (leadG x 0 0).map opv = List.replicate (max x.T.Rows.length x.Maps.length) [.o 1 []] := by
  apply List.ext_getElem
  · simp [leadG]
  · intro i h1 h2
    simp [leadG, opv]
theorem leadG_row {x : TImage} {k : Nat} (h : k < max x.T.Rows.length x.Maps.length) : (leadG x k 0)[k]? = some [] := by
  simp [leadG, h]
theorem leadG_row1 {x : TImage} {k : Nat} {r : TRow} (h : x.T.Rows[k]? = some r) : (leadG x k 0).set k [r.Map] = leadG x (k + 1) 0 := by
  apply List.ext_getElem
  · simp [leadG]
  · intro i h1 h2
    simp only [leadG, List.getElem_set, List.getElem_map, List.getElem_range]
    by_cases e : k = i
    · subst e; simp [byRow, h]
    · rw [if_neg e]
      have : (i < k) = (i < k + 1) := by simp only [eq_iff_iff]; omega
      simp only [this]
theorem leadG_map {x : TImage} {k : Nat} (h : k < x.Maps.length) : (leadG x x.T.Rows.length k)[k]? = some (byRow x k) := by
  have h2 : k < max x.T.Rows.length x.Maps.length := by omega
  simp only [leadG, List.getElem?_map, List.getElem?_range h2, Option.map_some]
  simp only [Nat.lt_irrefl, if_false, List.append_nil]
  by_cases e : k < x.T.Rows.length
  · simp [e]
  · simp [e, byRow, List.getElem?_eq_none (Nat.le_of_not_lt e)]
theorem leadG_map1 {x : TImage} {k : Nat} {p : TMap} (h : x.Maps[k]? = some p) : (leadG x x.T.Rows.length k).set k (byRow x k ++ p.Places.map TPlace.Addr) = leadG x x.T.Rows.length (k + 1) := by
  apply List.ext_getElem
  · simp [leadG]
  · intro i h1 h2
    simp only [leadG, List.getElem_set, List.getElem_map, List.getElem_range]
    by_cases e : k = i
    · subst e
      have hl := (List.getElem?_eq_some_iff.1 h).1
      simp only [if_true, Nat.lt_succ_self, byMap, h]
      by_cases e : k < x.T.Rows.length
      · simp [e]
      · simp [e, byRow, List.getElem?_eq_none (Nat.le_of_not_lt e)]
    · rw [if_neg e]
      have : (i < k) = (i < k + 1) := by simp only [eq_iff_iff]; omega
      simp only [this]
theorem set_same {α : Type} {l : List α} {k : Nat} {a : α} (h : l[k]? = some a) : l.set k a = l := by
  obtain ⟨h1, h2⟩ := List.getElem?_eq_some_iff.1 h
  rw [← h2, List.set_getElem_self]

set_option maxHeartbeats 4000000 in
theorem leads_ok (n : Nat) (hn : Big + 3 ≤ n) (x : TImage) (hx : x.ok) : pcall env n 36 [.c .agg (x.pv.map argC')] [] = some ⟨.c .one [.ow false 1 ((leadG x x.T.Rows.length x.Maps.length).map opv)], []⟩ := by
  obtain ⟨m, rfl⟩ := ex_pred hn
  have hB := big_bd
  have hb : Bd = 1048576 := rfl
  have hr := hx.T.Rows.2
  have hm := hx.Maps.2
  obtain ⟨M, hM⟩ : ∃ M : Nat, max x.T.Rows.length x.Maps.length = M := ⟨_, rfl⟩
  have hMi : (if (x.Maps.length : Int) > (x.T.Rows.length : Int) then (x.Maps.length : Int) else (x.T.Rows.length : Int)) = (M : Int) := by
    split <;> omega
  refine wq_eq (wq_pcall (fn := Tryz.f36) rfl rfl rfl (Nat.le_of_ble_eq_true rfl) ?_)
  unfold Tryz.f36
  simp only [go_sem, Nat.reduceLT, Nat.reduceAdd, Nat.reduceSub, Nat.reduceEqDiff, Nat.reduceLeDiff, Int.reduceEq, Int.reduceBEq, Int.reduceBNe, Int.reduceNeg, UInt8.reduceToNat, Nat.reduceBEq, hMi]
  refine bq_pos (by unfold LIM; omega) ?_
  simp only [go_sem, Nat.reduceLT, Nat.reduceAdd, Nat.reduceSub, Nat.reduceEqDiff, Nat.reduceLeDiff, Int.reduceEq, Int.reduceBEq, Int.reduceBNe, Int.reduceNeg, UInt8.reduceToNat, Nat.reduceBEq, hMi]
  refine wq_loop_at (fun k τ => ∃ j : Nat, j ≤ x.T.Rows.length ∧ k = x.T.Rows.length - j ∧ τ = slots 69 [(1, .c .box (x.pv.map argC')), (3, .c .one [.ow false 1 ((leadG x j 0).map opv)]), (21, .c .one [.sh true (.s 5 (x.T.Rows.map TRow.pv))]), (22, .c .one [.sh false (.i .i64 x.T.Rows.length)]), (23, .c .one [.sh false (.i .i64 (j : Nat))])]) x.T.Rows.length (by omega) ?_ ?_
  · simp only [go_sem, Nat.reduceLT, Nat.reduceAdd, Nat.reduceSub, Nat.reduceEqDiff, Nat.reduceLeDiff, Int.reduceEq, Int.reduceBEq, Int.reduceBNe, Int.reduceNeg, UInt8.reduceToNat, Nat.reduceBEq]
    refine ⟨0, Nat.zero_le _, rfl, ?_⟩
    rw [leadG_zero, hM]
    rfl
  · rintro k τ ⟨j, hj, rfl, rfl⟩
    by_cases hlt : j < x.T.Rows.length
    · have h1 : ((j : Int) < (x.T.Rows.length : Int)) := by omega
      have hy : x.T.Rows[j]? = some x.T.Rows[j] := List.getElem?_eq_getElem hlt
      generalize x.T.Rows[j] = y at hy
      have hg := leadG_row (x := x) (k := j) (by omega)
      have h8 : 8 ≤ LIM := by decide
      have hs : ((leadG x j 0).map opv).set j [.o 1 [[.i .i64 y.Map]]] = (leadG x (j + 1) 0).map opv := by
        rw [← leadG_row1 hy]; exact set_opv (l := [y.Map])
      simp only [go_sem, Nat.reduceLT, Nat.reduceAdd, Nat.reduceSub, Nat.reduceEqDiff, Nat.reduceLeDiff, Int.reduceEq, Int.reduceBEq, Int.reduceBNe, Int.reduceNeg, UInt8.reduceToNat, Nat.reduceBEq, h1, hy, hg, h8, hs, wrap_succ hlt (by omega)]
      refine chk (by kernel_rfl) ⟨_, by omega, j + 1, hlt, rfl, rfl⟩
    · have h1 : ¬ ((j : Int) < (x.T.Rows.length : Int)) := by omega
      obtain rfl : j = x.T.Rows.length := by omega
      simp only [go_sem, Nat.reduceLT, Nat.reduceAdd, Nat.reduceSub, Nat.reduceEqDiff, Nat.reduceLeDiff, Int.reduceEq, Int.reduceBEq, Int.reduceBNe, Int.reduceNeg, UInt8.reduceToNat, Nat.reduceBEq, h1]
      refine wq_loop_at (fun k τ => ∃ j : Nat, j ≤ x.Maps.length ∧ k = x.Maps.length - j ∧ τ = slots 69 [(1, .c .box (x.pv.map argC')), (3, .c .one [.ow false 1 ((leadG x x.T.Rows.length j).map opv)]), (41, .c .one [.sh true (.s 2 (x.Maps.map TMap.pv))]), (42, .c .one [.sh false (.i .i64 x.Maps.length)]), (43, .c .one [.sh false (.i .i64 (j : Nat))])]) x.Maps.length (by omega) ?_ ?_
      · simp only [go_sem, Nat.reduceLT, Nat.reduceAdd, Nat.reduceSub, Nat.reduceEqDiff, Nat.reduceLeDiff, Int.reduceEq, Int.reduceBEq, Int.reduceBNe, Int.reduceNeg, UInt8.reduceToNat, Nat.reduceBEq]
        exact ⟨0, Nat.zero_le _, rfl, rfl⟩
      · rintro k τ ⟨j, hj, rfl, rfl⟩
        by_cases hlt : j < x.Maps.length
        · have h1 : ((j : Int) < (x.Maps.length : Int)) := by omega
          have hy : x.Maps[j]? = some x.Maps[j] := List.getElem?_eq_getElem hlt
          have hok := hx.Maps.1 _ (List.getElem_mem hlt)
          generalize x.Maps[j] = y at hy hok
          have hg := leadG_map (x := x) hlt
          have hp := hok.Places.2
          simp only [go_sem, Nat.reduceLT, Nat.reduceAdd, Nat.reduceSub, Nat.reduceEqDiff, Nat.reduceLeDiff, Int.reduceEq, Int.reduceBEq, Int.reduceBNe, Int.reduceNeg, UInt8.reduceToNat, Nat.reduceBEq, h1, hy]
          refine wq_loop_at (fun k τ => ∃ i : Nat, i ≤ y.Places.length ∧ k = y.Places.length - i ∧ τ = slots 69 [(1, .c .box (x.pv.map argC')), (3, .c .one [.ow false 1 (((leadG x x.T.Rows.length j).set j (byRow x j ++ (y.Places.take i).map TPlace.Addr)).map opv)]), (6, .c .one [.sh false (.i .i64 (j : Nat))]), (7, .c .box (y.pv.map argC')), (41, .c .one [.sh true (.s 2 (x.Maps.map TMap.pv))]), (42, .c .one [.sh false (.i .i64 x.Maps.length)]), (43, .c .one [.sh false (.i .i64 (j : Nat))]), (49, .c .one [.sh true (.s 2 (y.Places.map TPlace.pv))]), (50, .c .one [.sh false (.i .i64 y.Places.length)]), (51, .c .one [.sh false (.i .i64 (i : Nat))])]) y.Places.length (by omega) ?_ ?_
          · simp only [go_sem, Nat.reduceLT, Nat.reduceAdd, Nat.reduceSub, Nat.reduceEqDiff, Nat.reduceLeDiff, Int.reduceEq, Int.reduceBEq, Int.reduceBNe, Int.reduceNeg, UInt8.reduceToNat, Nat.reduceBEq]
            refine ⟨0, Nat.zero_le _, rfl, ?_⟩
            rw [List.take_zero, List.map_nil, List.append_nil, set_same hg]
            rfl
          · rintro k τ ⟨i, hi, rfl, rfl⟩
            by_cases hlt2 : i < y.Places.length
            · have h2 : ((i : Int) < (y.Places.length : Int)) := by omega
              have hz : y.Places[i]? = some y.Places[i] := List.getElem?_eq_getElem hlt2
              have htk := List.take_succ_eq_append_getElem hlt2
              generalize y.Places[i] = z at hz htk
              have hgl : j < (leadG x x.T.Rows.length j).length := by rw [leadG_len]; omega
              have hbr : (byRow x j).length ≤ 1 := by unfold byRow; split <;> simp
              have hg2 : ((leadG x x.T.Rows.length j).set j (byRow x j ++ (y.Places.take i).map TPlace.Addr))[j]? = some (byRow x j ++ (y.Places.take i).map TPlace.Addr) := List.getElem?_set_self hgl
              have hs : (((leadG x x.T.Rows.length j).set j (byRow x j ++ (y.Places.take i).map TPlace.Addr)).map opv).set j [.o 1 ((byRow x j ++ (y.Places.take i).map TPlace.Addr).map ipv ++ [[.i .i64 z.Addr]])] = ((leadG x x.T.Rows.length j).set j (byRow x j ++ (y.Places.take (i + 1)).map TPlace.Addr)).map opv := by
                rw [set_opv1, List.set_set, htk, List.map_append, List.append_assoc]; rfl
              obtain ⟨l0, hl0⟩ : ∃ l0, byRow x j ++ (y.Places.take i).map TPlace.Addr = l0 := ⟨_, rfl⟩
              have hll : l0.length ≤ 1 + y.Places.length := by rw [← hl0]; simp; omega
              rw [hl0] at hg2 hs ⊢
              have h8 : (l0.length + 1) * 8 ≤ LIM := by unfold LIM; omega
              generalize (leadG x x.T.Rows.length j).set j l0 = L0 at hg2 hs ⊢
              simp only [go_sem, Nat.reduceLT, Nat.reduceAdd, Nat.reduceSub, Nat.reduceEqDiff, Nat.reduceLeDiff, Int.reduceEq, Int.reduceBEq, Int.reduceBNe, Int.reduceNeg, UInt8.reduceToNat, Nat.reduceBEq, h2, hz, hg2, h8, hs, wrap_succ hlt2 (by omega)]
              refine chk (by kernel_rfl) ⟨_, by omega, i + 1, hlt2, rfl, rfl⟩
            · have h2 : ¬ ((i : Int) < (y.Places.length : Int)) := by omega
              obtain rfl : i = y.Places.length := by omega
              rw [List.take_length, leadG_map1 hy]
              simp only [go_sem, Nat.reduceLT, Nat.reduceAdd, Nat.reduceSub, Nat.reduceEqDiff, Nat.reduceLeDiff, Int.reduceEq, Int.reduceBEq, Int.reduceBNe, Int.reduceNeg, UInt8.reduceToNat, Nat.reduceBEq, h2, wrap_succ hlt (by omega)]
              exact ⟨_, by omega, j + 1, hlt, rfl, rfl⟩
        · have h1 : ¬ ((j : Int) < (x.Maps.length : Int)) := by omega
          obtain rfl : j = x.Maps.length := by omega
          simp only [go_sem, Nat.reduceLT, Nat.reduceAdd, Nat.reduceSub, Nat.reduceEqDiff, Nat.reduceLeDiff, Int.reduceEq, Int.reduceBEq, Int.reduceBNe, Int.reduceNeg, UInt8.reduceToNat, Nat.reduceBEq, h1]
end Go.Proofs.YtblelojdboefjaaGreat.R
