/- strings.Split at "/": the parts between the slashes. -/
import Derived.Test.YtblelojdboefjaaDoorYa
import Derived.KernelRfl
set_option maxRecDepth 100000
set_option linter.unusedVariables false
set_option linter.unusedSimpArgs false
namespace Go.Proofs.YtblelojdboefjaaDoor.R
open Go

/-- The parts between the slashes. -/
def splitL : List UInt8 → List (List UInt8)
  | [] => [[]]
  | c :: l => if c = 47 then [] :: splitL l else match splitL l with
    | p :: ps => (c :: p) :: ps
    | [] => [[c]]
/-- A part as a row. -/
def ppv (p : List UInt8) : List PV := [.t ⟨⟨p⟩⟩]
instance : FlatF ppv := .mk' fun _ => rfl
instance : ScalF ppv := ⟨fun _ => rfl⟩
attribute [go_sem] ppv

theorem split_first : ∀ l : List UInt8, (l.count 47 = 0 ∧ Lib.indexByte l 47 = -1 ∧ splitL l = [l]) ∨ ∃ a b, l = a ++ 47 :: b ∧ Lib.indexByte l 47 = (a.length : Nat) ∧ l.count 47 = b.count 47 + 1 ∧ splitL l = a :: splitL b
  | [] => .inl ⟨rfl, rfl, rfl⟩
  | c :: l => by
    by_cases hc : c = 47
    · subst hc
      exact .inr ⟨[], l, rfl, by simp [Lib.indexByte], by simp, by simp [splitL]⟩
    · have hb : (c == 47) = false := by simpa using hc
      rcases split_first l with ⟨h1, h2, h3⟩ | ⟨a, b, h1, h2, h3, h4⟩
      · refine .inl ⟨by rw [List.count_cons, h1, hb]; rfl, ?_, ?_⟩
        · simp [Lib.indexByte, hb, h2]
        · simp [splitL, hc, h3]
      · refine .inr ⟨c :: a, b, by rw [h1]; rfl, ?_, ?_, ?_⟩
        · have : ¬ ((a.length : Int) = -1) := by omega
          simp [Lib.indexByte, hb, h2, this]
        · rw [List.count_cons, h3, hb]; rfl
        · simp [splitL, hc, h4]
theorem splitL_length : ∀ l : List UInt8, (splitL l).length = l.count 47 + 1
  | [] => rfl
  | c :: l => by
    have ih := splitL_length l
    by_cases hc : c = 47
    · subst hc; simp [splitL, ih]
    · have hb : (c == 47) = false := by simpa using hc
      rw [List.count_cons, hb]
      simp only [splitL, if_neg hc]
      cases h : splitL l with
      | nil => rw [h] at ih; simp at ih
      | cons p ps => rw [h] at ih; simpa using ih

theorem slIndexByte_ok (n : Nat) (hn : Big + 2 ≤ n) (l : List UInt8) : pcall env n 95 [pvSV (.t ⟨⟨l⟩⟩), pvSV (.i .u8 47)] [] = some ⟨pvSV (.i .i64 (Lib.indexByte l 47)), []⟩ := by
  obtain ⟨m, rfl⟩ := ex_pred hn
  obtain ⟨k, rfl⟩ := ex_pred (n := m) (d := 1) (deep hn (by decide))
  have hc : pcall env (k + 1) 99 [.c .one [.sh false (.t ⟨⟨l⟩⟩)], .c .one [.sh false (.i .u8 47)]] [] = some ⟨.c .one [.sh false (.i .i64 (Lib.indexByte l 47))], []⟩ := rfl
  refine wq_eq (wq_pcall (fn := Tryd.f95) rfl rfl rfl (Nat.le_of_ble_eq_true rfl) ?_)
  unfold Tryd.f95
  simp only [go_sem, Nat.reduceLT, Nat.reduceAdd, Nat.reduceSub, Nat.reduceEqDiff, Nat.reduceLeDiff, Int.reduceEq, Int.reduceBEq, Int.reduceBNe, Int.reduceNeg, UInt8.reduceToNat, hc]

theorem slIndex_ok (n : Nat) (hn : Big + 3 ≤ n) (l : List UInt8) : pcall env n 93 [pvSV (.t ⟨⟨l⟩⟩), pvSV (.t ⟨⟨[47]⟩⟩)] [] = some ⟨pvSV (.i .i64 (Lib.indexByte l 47)), []⟩ := by
  obtain ⟨m, rfl⟩ := ex_pred hn
  have hc := slIndexByte_ok m (deep hn (by decide)) l
  simp only [go_sem] at hc
  by_cases hb : l = [47]
  · subst hb
    refine wq_eq (wq_pcall (fn := Tryd.f93) rfl rfl rfl (Nat.le_of_ble_eq_true rfl) ?_)
    unfold Tryd.f93
    simp only [go_sem, Nat.reduceLT, Nat.reduceAdd, Nat.reduceSub, Nat.reduceEqDiff, Nat.reduceLeDiff, Int.reduceEq, Int.reduceBEq, Int.reduceBNe, Int.reduceNeg, UInt8.reduceToNat, hc, beq_self_eq_true]
    simp [Lib.indexByte]
  · have hb' : ([47] == l) = false := by simpa using fun h => hb (Eq.symm h)
    refine wq_eq (wq_pcall (fn := Tryd.f93) rfl rfl rfl (Nat.le_of_ble_eq_true rfl) ?_)
    unfold Tryd.f93
    simp only [go_sem, Nat.reduceLT, Nat.reduceAdd, Nat.reduceSub, Nat.reduceEqDiff, Nat.reduceLeDiff, Int.reduceEq, Int.reduceBEq, Int.reduceBNe, Int.reduceNeg, UInt8.reduceToNat, hc, hb']
theorem index_ok (n : Nat) (hn : Big + 4 ≤ n) (l : List UInt8) : pcall env n 88 [pvSV (.t ⟨⟨l⟩⟩), pvSV (.t ⟨⟨[47]⟩⟩)] [] = some ⟨pvSV (.i .i64 (Lib.indexByte l 47)), []⟩ := by
  obtain ⟨m, rfl⟩ := ex_pred hn
  have hc := slIndex_ok m (deep hn (by decide)) l
  simp only [go_sem] at hc
  refine wq_eq (wq_pcall (fn := Tryd.f88) rfl rfl rfl (Nat.le_of_ble_eq_true rfl) ?_)
  unfold Tryd.f88
  simp only [go_sem, Nat.reduceLT, Nat.reduceAdd, Nat.reduceSub, Nat.reduceEqDiff, Nat.reduceLeDiff, Int.reduceEq, Int.reduceBEq, Int.reduceBNe, Int.reduceNeg, UInt8.reduceToNat, hc]
theorem count_ok (n : Nat) (hn : Big + 2 ≤ n) (l : List UInt8) : pcall env n 87 [pvSV (.t ⟨⟨l⟩⟩), pvSV (.t ⟨⟨[47]⟩⟩)] [] = some ⟨pvSV (.i .i64 (l.count 47 : Nat)), []⟩ := by
  obtain ⟨m, rfl⟩ := ex_pred hn
  obtain ⟨k, rfl⟩ := ex_pred (n := m) (d := 1) (deep hn (by decide))
  have hc : pcall env (k + 1) 92 [.c .one [.sh false (.t ⟨⟨l⟩⟩)], .c .one [.sh false (.i .u8 47)]] [] = some ⟨.c .one [.sh false (.i .i64 (l.count 47 : Nat))], []⟩ := rfl
  refine wq_eq (wq_pcall (fn := Tryd.f87) rfl rfl rfl (Nat.le_of_ble_eq_true rfl) ?_)
  unfold Tryd.f87
  simp only [go_sem, Nat.reduceLT, Nat.reduceAdd, Nat.reduceSub, Nat.reduceEqDiff, Nat.reduceLeDiff, Int.reduceEq, Int.reduceBEq, Int.reduceBNe, Int.reduceNeg, UInt8.reduceToNat, hc]



theorem genSplit_ok (n : Nat) (hn : Big + 5 ≤ n) (l : List UInt8) (hl : l.length ≤ Bd) : pcall env n 83 [pvSV (.t ⟨⟨l⟩⟩), pvSV (.t ⟨⟨[47]⟩⟩), pvSV (.i .i64 0), pvSV (.i .i64 (-1))] [] = some ⟨.c .one [.sh false (.s 1 ((splitL l).map ppv))], []⟩ := by
  obtain ⟨m, rfl⟩ := ex_pred hn
  have hB := big_bd
  have hbd : Bd = 1048576 := rfl
  have hcl : l.count 47 ≤ l.length := List.count_le_length
  have hc := count_ok m (deep hn (by decide)) l
  have hi := fun r => index_ok m (deep hn (by decide)) r
  simp only [go_sem] at hc hi
  obtain ⟨c1, hc1⟩ : ∃ c1, c1 = l.count 47 + 1 := ⟨_, rfl⟩
  have w1 : IntKind.i64.wrap ((l.count 47 : Int) + 1) = (c1 : Int) := by rw [wrap_in (by omega) (by omega)]; omega
  obtain ⟨c2, hc2⟩ : ∃ c2, c2 = l.length + 1 := ⟨_, rfl⟩
  have w2 : IntKind.i64.wrap ((l.length : Int) + 1) = (c2 : Int) := by rw [wrap_in (by omega) (by omega)]; omega
  have w3 : IntKind.i64.wrap ((c1 : Int) - 1) = ((l.count 47 : Nat) : Int) := by rw [wrap_in (by omega) (by omega)]; omega
  refine wq_eq (wq_pcall (fn := Tryd.f83) rfl rfl rfl (Nat.le_of_ble_eq_true rfl) ?_)
  unfold Tryd.f83
  have hmv : (if (c2 : Int) < (c1 : Int) then (c2 : Int) else (c1 : Int)) = (c1 : Int) := if_neg (by omega)
  simp only [go_sem, Nat.reduceLT, Nat.reduceAdd, Nat.reduceSub, Nat.reduceEqDiff, Nat.reduceLeDiff, Int.reduceEq, Int.reduceBEq, Int.reduceBNe, Int.reduceNeg, UInt8.reduceToNat, hc, w1, w2, hmv]
  refine bq_pos (by unfold LIM; omega) ?_
  simp only [go_sem, Nat.reduceLT, Nat.reduceAdd, Nat.reduceSub, Nat.reduceEqDiff, Nat.reduceLeDiff, Int.reduceEq, Int.reduceBEq, Int.reduceBNe, Int.reduceNeg, UInt8.reduceToNat, w3]
  refine wq_loop_at (fun k σ => ∃ (j : Nat) (r : List UInt8) (dn : List (List UInt8)), k = l.count 47 - j ∧ j ≤ l.count 47 ∧ dn.length = j ∧ r.count 47 + j = l.count 47 ∧ r.length ≤ l.length ∧ dn ++ splitL r = splitL l ∧ σ = slots 66 [(0, .c .one [.sh false (.t ⟨⟨r⟩⟩)]), (1, .c .one [.sh false (.t ⟨⟨[47]⟩⟩)]), (2, .c .one [.sh false (.i .i64 0)]), (3, .c .one [.sh false (.i .i64 (l.count 47 : Nat))]), (9, .c .one [.ow false 1 (dn.map ppv ++ List.replicate (c1 - j) [.t ⟨⟨[]⟩⟩])]), (10, .c .one [.sh false (.i .i64 (j : Nat))])]) (l.count 47) (by omega) ?_ ?_
  · simp only [go_sem, Nat.reduceLT, Nat.reduceAdd, Nat.reduceSub, Nat.reduceEqDiff, Nat.reduceLeDiff, Int.reduceEq, Int.reduceBEq, Int.reduceBNe, Int.reduceNeg, UInt8.reduceToNat]
    exact ⟨0, l, [], rfl, Nat.zero_le _, rfl, rfl, Nat.le_refl _, rfl, rfl⟩
  · rintro k σ ⟨j, r, dn, rfl, hj, hd, hr, hrl, hs, rfl⟩
    have hget : (dn.map ppv ++ List.replicate (c1 - j) [.t ⟨⟨[]⟩⟩])[j]? = some [.t ⟨⟨[]⟩⟩] := by
      rw [List.getElem?_append_right (by simp; omega)]
      simp only [List.length_map, List.getElem?_replicate]
      rw [if_pos (by omega)]
    have hset : ∀ p : List UInt8, (dn.map ppv ++ List.replicate (c1 - j) [PV.t ⟨⟨[]⟩⟩]).set j [PV.t ⟨⟨p⟩⟩] = (dn ++ [p]).map ppv ++ List.replicate (c1 - (j + 1)) [.t ⟨⟨[]⟩⟩] := fun p => by
      rw [List.set_append_right _ _ (by simp; omega)]
      have e : c1 - j = (c1 - (j + 1)) + 1 := by omega
      have e2 : j - (List.map ppv dn).length = 0 := by simp; omega
      rw [e, List.replicate_succ, e2, List.set_cons_zero, List.map_append, List.append_assoc]
      rfl
    by_cases hlt : j < l.count 47
    · have h1 : ((j : Int) < (l.count 47 : Int)) := by omega
      rcases split_first r with ⟨e1, e2, e3⟩ | ⟨a, b, rfl, e2, e3, e4⟩
      · omega
      · have h2 : ¬ ((a.length : Int) < 0) := by omega
        have w4 : IntKind.i64.wrap (a.length : Int) = (a.length : Int) := wrap_in (by omega) (by simp only [List.length_append, List.length_cons] at hrl; omega)
        have w5 : IntKind.i64.wrap ((a.length : Int) + 1) = ((a.length + 1 : Nat) : Int) := by rw [wrap_in (by omega) (by simp only [List.length_append, List.length_cons] at hrl; omega)]; omega
        simp only [go_sem, Nat.reduceLT, Nat.reduceAdd, Nat.reduceSub, Nat.reduceEqDiff, Nat.reduceLeDiff, Int.reduceEq, Int.reduceBEq, Int.reduceBNe, Int.reduceNeg, UInt8.reduceToNat, h1, hi, e2, h2, hget, hset, Int.add_zero, w4, w5, wrap_succ hlt (by omega)]
        have t1 : List.take a.length (a ++ 47 :: b) = a := List.take_left
        have t2 : List.take (a.length + (b.length + 1)) (a ++ 47 :: b) = a ++ 47 :: b := List.take_of_length_le (by simp)
        have t3 : List.drop (a.length + 1) (a ++ 47 :: b) = b := by rw [← List.drop_drop, List.drop_left]; rfl
        repeat (first | (refine bq_pos (by omega) ?_; simp only [go_sem, Nat.reduceLT, Nat.reduceAdd, Nat.reduceSub, Nat.reduceEqDiff, Nat.reduceLeDiff, Int.reduceEq, Int.reduceBEq, Int.reduceBNe, Int.reduceNeg, UInt8.reduceToNat, hi, e2, h2, hget, hset, Int.add_zero, w4, w5, t1, t2, t3, wrap_succ hlt (by omega)]) | (refine bq_neg (by omega) ?_; simp only [go_sem, Nat.reduceLT, Nat.reduceAdd, Nat.reduceSub, Nat.reduceEqDiff, Nat.reduceLeDiff, Int.reduceEq, Int.reduceBEq, Int.reduceBNe, Int.reduceNeg, UInt8.reduceToNat, hi, e2, h2, hget, hset, Int.add_zero, w4, w5, t1, t2, t3, wrap_succ hlt (by omega)]))
        simp only [List.length_append, List.length_cons] at hrl
        exact ⟨_, by omega, j + 1, b, dn ++ [a], rfl, hlt, by simp [hd], by omega, by omega, by rw [← hs, e4, List.append_assoc]; rfl, rfl⟩
    · have h1 : ¬ ((j : Int) < (l.count 47 : Int)) := by omega
      have ej : j = l.count 47 := by omega
      have w6 : IntKind.i64.wrap ((j : Int) + 1) = ((j + 1 : Nat) : Int) := by rw [wrap_in (by omega) (by omega)]; omega
      have hfin : List.take (j + 1) (List.map ppv (dn ++ [r]) ++ List.replicate (c1 - (j + 1)) [PV.t ⟨⟨[]⟩⟩]) = (splitL l).map ppv := by
        have e0 : c1 - (j + 1) = 0 := by omega
        rcases split_first r with ⟨e1, e2, e3⟩ | ⟨a, b, rfl, e2, e3, e4⟩
        · rw [e0, List.replicate_zero, List.append_nil, List.take_of_length_le (by simp [hd]), ← hs, e3]
        · omega
      simp only [go_sem, Nat.reduceLT, Nat.reduceAdd, Nat.reduceSub, Nat.reduceEqDiff, Nat.reduceLeDiff, Int.reduceEq, Int.reduceBEq, Int.reduceBNe, Int.reduceNeg, UInt8.reduceToNat, h1, hget, hset, w6]
      refine bq_pos (by omega) ?_
      have q1 : (List.map ppv dn).length = j := by simp [hd]
      simp only [go_sem, Nat.reduceLT, Nat.reduceAdd, Nat.reduceSub, Nat.reduceEqDiff, Nat.reduceLeDiff, Int.reduceEq, Int.reduceBEq, Int.reduceBNe, Int.reduceNeg, UInt8.reduceToNat, h1, hget, hset, w6, true_or, hfin]
end Go.Proofs.YtblelojdboefjaaDoor.R
