/- Names: both programs take the same ones for right. -/
import Derived.Test.YtblelojdboefjaaDoorF
import Derived.Test.YtblelojdboefjaaDoorM6
import Derived.Test.YtblelojdboefjaaDoorY0
set_option maxRecDepth 100000
set_option linter.unusedVariables false
set_option linter.unusedSimpArgs false
namespace Go.Proofs.YtblelojdboefjaaDoor.R
open Go

/-- A byte that no name has. -/
def badC (n : Int) : Bool := (decide (n < 97) || decide (n > 122)) && (decide (n < 48) || decide (n > 57)) && (n != 95) && (n != 45) && (n != 46)
def nameEnd (l : List UInt8) : Bool := decide (1 ≤ l.length) && decide (l.length ≤ 14) && !(l == [46]) && !(l == [46, 46])
def nameL (l : List UInt8) : Bool := l.all (fun c => !badC (c.toNat : Int)) && nameEnd l
def nameB (s : ByteArray) : Bool := nameL s.data.toList
theorem nameL_bad {l : List UInt8} {j : Nat} {c : UInt8} (h : l[j]? = some c) (hb : badC (c.toNat : Int) = true) : nameL l = false := by
  unfold nameL
  have : l.all (fun c => !badC (c.toNat : Int)) = false := by
    rw [List.all_eq_false]
    exact ⟨c, List.mem_of_getElem? h, by simp [hb]⟩
  rw [this, Bool.false_and]
theorem nameL_all {l : List UInt8} (h : ∀ (i : Nat) (c : UInt8), l[i]? = some c → badC (c.toNat : Int) = false) : nameL l = nameEnd l := by
  unfold nameL
  have : l.all (fun c => !badC (c.toNat : Int)) = true := by
    rw [List.all_eq_true]
    intro c hc
    obtain ⟨i, hi⟩ := List.getElem?_of_mem hc
    simp [h i c hi]
  rw [this, Bool.true_and]



theorem nameImpl_ok (n : Nat) (hn : Big + 1 ≤ n) (s : ByteArray) (hs : s.size ≤ Bd) : pcall env n 80 [pvSV (.t s)] [] = some ⟨pvSV (.b (nameB s)), []⟩ := by
  obtain ⟨m, rfl⟩ := ex_pred hn
  have hB := big_bd
  have hbd : Bd = 1048576 := rfl
  obtain ⟨⟨l⟩⟩ := s
  have hl : l.length ≤ Bd := hs
  unfold nameB
  refine wq_eq (wq_pcall (fn := Tryd.f80) rfl rfl rfl (Nat.le_of_ble_eq_true rfl) ?_)
  unfold Tryd.f80
  simp only [go_sem, Nat.reduceLT, Nat.reduceAdd, Nat.reduceSub, Nat.reduceEqDiff, Nat.reduceLeDiff, Int.reduceEq]
  refine wq_loop_at (fun k σ => ∃ j : Nat, j ≤ l.length ∧ k = l.length - j ∧ (∀ (i : Nat) (c : UInt8), i < j → l[i]? = some c → badC (c.toNat : Int) = false) ∧ σ = slots 56 [(0, .c .one [.sh false (.t ⟨⟨l⟩⟩)]), (6, .c .one [.sh false (.i .i64 (l.length : Nat))]), (7, .c .one [.sh false (.i .i64 (j : Nat))])]) l.length (by omega) ?_ ?_
  · simp only [go_sem, Nat.reduceLT, Nat.reduceAdd, Nat.reduceSub, Nat.reduceEqDiff, Nat.reduceLeDiff, Int.reduceEq]
    exact ⟨0, Nat.zero_le _, rfl, fun i c hi => absurd hi (Nat.not_lt_zero _), rfl⟩
  · rintro k σ ⟨j, hj, rfl, hp, rfl⟩
    by_cases hlt : j < l.length
    · have h1 : ((j : Int) < (l.length : Int)) := by omega
      have hx : l[j]? = some l[j] := List.getElem?_eq_getElem hlt
      generalize l[j] = c at hx
      by_cases hbad : badC (c.toNat : Int) = true
      · rw [nameL_bad hx hbad]
        have hcc := hbad
        unfold badC at hcc
        simp only [Bool.and_eq_true, Bool.or_eq_true, decide_eq_true_eq, bne_iff_ne] at hcc
        obtain ⟨⟨⟨⟨ha, hb⟩, h95⟩, h45⟩, h46⟩ := hcc
        have e95 := bne_iff_ne.2 h95
        have e45 := bne_iff_ne.2 h45
        have e46 := bne_iff_ne.2 h46
        rcases (show ((c.toNat : Int) < 48) ∨ (57 < (c.toNat : Int) ∧ (c.toNat : Int) < 97) ∨ (122 < (c.toNat : Int)) by omega) with hc | hc | hc
        · have f0 : (c.toNat : Int) < 97 := by omega
          have f1 : (c.toNat : Int) < 48 := by omega
          simp only [go_sem, Nat.reduceLT, Nat.reduceAdd, Nat.reduceSub, Nat.reduceEqDiff, Nat.reduceLeDiff, Int.reduceEq, h1, hx, e95, e45, e46, f0, f1]
        · have f0 : (c.toNat : Int) < 97 := by omega
          have f1 : ¬ (c.toNat : Int) < 48 := by omega
          have f2 : (c.toNat : Int) > 57 := by omega
          simp only [go_sem, Nat.reduceLT, Nat.reduceAdd, Nat.reduceSub, Nat.reduceEqDiff, Nat.reduceLeDiff, Int.reduceEq, h1, hx, e95, e45, e46, f0, f1, f2]
        · have f0 : ¬ (c.toNat : Int) < 97 := by omega
          have f1 : (c.toNat : Int) > 122 := by omega
          have f2 : ¬ (c.toNat : Int) < 48 := by omega
          have f3 : (c.toNat : Int) > 57 := by omega
          simp only [go_sem, Nat.reduceLT, Nat.reduceAdd, Nat.reduceSub, Nat.reduceEqDiff, Nat.reduceLeDiff, Int.reduceEq, h1, hx, e95, e45, e46, f0, f1, f2, f3]
      · have hcc : badC (c.toNat : Int) = false := by simpa using hbad
        have hp' : ∀ (i : Nat) (d : UInt8), i < j + 1 → l[i]? = some d → badC (d.toNat : Int) = false := fun i d hi hd => by
          rcases Nat.lt_succ_iff_lt_or_eq.1 hi with h | h
          · exact hp i d h hd
          · subst h; rw [hx] at hd; injection hd with hd; subst hd; exact hcc
        have hg : (97 ≤ (c.toNat : Int) ∧ (c.toNat : Int) ≤ 122) ∨ (48 ≤ (c.toNat : Int) ∧ (c.toNat : Int) ≤ 57) ∨ (c.toNat : Int) = 95 ∨ (c.toNat : Int) = 45 ∨ (c.toNat : Int) = 46 := by
          unfold badC at hcc
          simp only [Bool.and_eq_false_iff, Bool.or_eq_false_iff, decide_eq_false_iff_not, bne_eq_false_iff_eq] at hcc
          omega
        rcases hg with hc | hc | hc | hc | hc
        · have f0 : ¬ (c.toNat : Int) < 97 := by omega
          have f1 : ¬ (c.toNat : Int) > 122 := by omega
          simp only [go_sem, Nat.reduceLT, Nat.reduceAdd, Nat.reduceSub, Nat.reduceEqDiff, Nat.reduceLeDiff, Int.reduceEq, h1, hx, wrap_succ hlt (by omega), f0, f1]
          exact ⟨_, by omega, j + 1, hlt, rfl, hp', rfl⟩
        · have f0 : (c.toNat : Int) < 97 := by omega
          have f1 : ¬ (c.toNat : Int) < 48 := by omega
          have f2 : ¬ (c.toNat : Int) > 57 := by omega
          simp only [go_sem, Nat.reduceLT, Nat.reduceAdd, Nat.reduceSub, Nat.reduceEqDiff, Nat.reduceLeDiff, Int.reduceEq, h1, hx, wrap_succ hlt (by omega), f0, f1, f2]
          exact ⟨_, by omega, j + 1, hlt, rfl, hp', rfl⟩
        · have f0 : (c.toNat : Int) < 97 := by omega
          have f1 : ¬ (c.toNat : Int) < 48 := by omega
          have f2 : (c.toNat : Int) > 57 := by omega
          have b0 : ((c.toNat : Int) != 95) = false := by simp [hc]
          simp only [go_sem, Nat.reduceLT, Nat.reduceAdd, Nat.reduceSub, Nat.reduceEqDiff, Nat.reduceLeDiff, Int.reduceEq, h1, hx, wrap_succ hlt (by omega), f0, f1, f2, b0]
          exact ⟨_, by omega, j + 1, hlt, rfl, hp', rfl⟩
        · have f0 : (c.toNat : Int) < 97 := by omega
          have f1 : (c.toNat : Int) < 48 := by omega
          have b0 : ((c.toNat : Int) != 95) = true := by simp; omega
          have b1 : ((c.toNat : Int) != 45) = false := by simp [hc]
          simp only [go_sem, Nat.reduceLT, Nat.reduceAdd, Nat.reduceSub, Nat.reduceEqDiff, Nat.reduceLeDiff, Int.reduceEq, h1, hx, wrap_succ hlt (by omega), f0, f1, b0, b1]
          exact ⟨_, by omega, j + 1, hlt, rfl, hp', rfl⟩
        · have f0 : (c.toNat : Int) < 97 := by omega
          have f1 : (c.toNat : Int) < 48 := by omega
          have b0 : ((c.toNat : Int) != 95) = true := by simp; omega
          have b1 : ((c.toNat : Int) != 45) = true := by simp; omega
          have b2 : ((c.toNat : Int) != 46) = false := by simp [hc]
          simp only [go_sem, Nat.reduceLT, Nat.reduceAdd, Nat.reduceSub, Nat.reduceEqDiff, Nat.reduceLeDiff, Int.reduceEq, h1, hx, wrap_succ hlt (by omega), f0, f1, b0, b1, b2]
          exact ⟨_, by omega, j + 1, hlt, rfl, hp', rfl⟩
    · have h1 : ¬ ((j : Int) < (l.length : Int)) := by omega
      obtain rfl : j = l.length := by omega
      rw [nameL_all fun i c hi => hp i c (List.getElem?_eq_some_iff.1 hi).1 hi]
      unfold nameEnd
      by_cases c1 : 1 ≤ l.length
      · have i1 : ((l.length : Int) ≥ 1) := by omega
        by_cases c2 : l.length ≤ 14
        · have i2 : ((l.length : Int) ≤ 14) := by omega
          cases c3 : (l == [46])
          · cases c4 : (l == [46, 46])
            · simp only [go_sem, Nat.reduceLT, Nat.reduceAdd, Nat.reduceSub, Nat.reduceEqDiff, Nat.reduceLeDiff, Int.reduceEq, h1, i1, i2, c1, c2, c3, c4]
            · simp only [go_sem, Nat.reduceLT, Nat.reduceAdd, Nat.reduceSub, Nat.reduceEqDiff, Nat.reduceLeDiff, Int.reduceEq, h1, i1, i2, c1, c2, c3, c4]
          · simp only [go_sem, Nat.reduceLT, Nat.reduceAdd, Nat.reduceSub, Nat.reduceEqDiff, Nat.reduceLeDiff, Int.reduceEq, h1, i1, i2, c1, c2, c3]
        · have i2 : ¬ ((l.length : Int) ≤ 14) := by omega
          simp only [go_sem, Nat.reduceLT, Nat.reduceAdd, Nat.reduceSub, Nat.reduceEqDiff, Nat.reduceLeDiff, Int.reduceEq, h1, i1, i2, c1, c2]
      · have i1 : ¬ ((l.length : Int) ≥ 1) := by omega
        simp only [go_sem, Nat.reduceLT, Nat.reduceAdd, Nat.reduceSub, Nat.reduceEqDiff, Nat.reduceLeDiff, Int.reduceEq, h1, i1, c1]

theorem nameSpec_ok (n : Nat) (hn : Big + 2 ≤ n) (s : ByteArray) (hs : s.size ≤ Bd) : pcall env n 74 [pvSV (.t s)] [] = some ⟨pvSV (.b (nameB s)), []⟩ := by
  obtain ⟨m, rfl⟩ := ex_pred hn
  have hB := big_bd
  have hbd : Bd = 1048576 := rfl
  obtain ⟨⟨l⟩⟩ := s
  have hl : l.length ≤ Bd := hs
  unfold nameB
  have hc1 := fun a b c => l1In_ok m (deep hn (by decide)) a b c
  simp only [go_sem] at hc1
  refine wq_eq (wq_pcall (fn := Tryd.f74) rfl rfl rfl (Nat.le_of_ble_eq_true rfl) ?_)
  unfold Tryd.f74
  simp only [go_sem, Nat.reduceLT, Nat.reduceAdd, Nat.reduceSub, Nat.reduceEqDiff, Nat.reduceLeDiff, Int.reduceEq]
  refine wq_loop_at (fun k σ => ∃ j : Nat, j ≤ l.length ∧ k = l.length - j ∧ (∀ (i : Nat) (c : UInt8), i < j → l[i]? = some c → badC (c.toNat : Int) = false) ∧ σ = slots 46 [(0, .c .one [.sh false (.t ⟨⟨l⟩⟩)]), (3, .c .one [.sh false (.i .i64 (j : Nat))])]) l.length (by omega) ?_ ?_
  · simp only [go_sem, Nat.reduceLT, Nat.reduceAdd, Nat.reduceSub, Nat.reduceEqDiff, Nat.reduceLeDiff, Int.reduceEq]
    exact ⟨0, Nat.zero_le _, rfl, fun i c hi => absurd hi (Nat.not_lt_zero _), rfl⟩
  · rintro k σ ⟨j, hj, rfl, hp, rfl⟩
    by_cases hlt : j < l.length
    · have h1 : ((j : Int) < (l.length : Int)) := by omega
      have hx : l[j]? = some l[j] := List.getElem?_eq_getElem hlt
      generalize l[j] = c at hx
      have hw : IntKind.i64.wrap (c.toNat : Int) = (c.toNat : Int) := wrap_in (by omega) (by have := c.toNat_lt; omega)
      by_cases hbad : badC (c.toNat : Int) = true
      · rw [nameL_bad hx hbad]
        have hcc := hbad
        unfold badC at hcc
        simp only [Bool.and_eq_true, Bool.or_eq_true, decide_eq_true_eq, bne_iff_ne] at hcc
        obtain ⟨⟨⟨⟨ha, hb⟩, h95⟩, h45⟩, h46⟩ := hcc
        have e95 := bne_iff_ne.2 h95
        have e45 := bne_iff_ne.2 h45
        have e46 := bne_iff_ne.2 h46
        rcases (show ((c.toNat : Int) < 48) ∨ (57 < (c.toNat : Int) ∧ (c.toNat : Int) < 97) ∨ (122 < (c.toNat : Int)) by omega) with hc | hc | hc
        · have f0 : ¬ (c.toNat : Int) ≥ 97 := by omega
          have f1 : ¬ (c.toNat : Int) ≥ 48 := by omega
          simp only [go_sem, Nat.reduceLT, Nat.reduceAdd, Nat.reduceSub, Nat.reduceEqDiff, Nat.reduceLeDiff, Int.reduceEq, h1, hx, hw, hc1, e95, e45, e46, f0, f1]
        · have f0 : ¬ (c.toNat : Int) ≥ 97 := by omega
          have f1 : (c.toNat : Int) ≥ 48 := by omega
          have f2 : ¬ (c.toNat : Int) ≤ 57 := by omega
          simp only [go_sem, Nat.reduceLT, Nat.reduceAdd, Nat.reduceSub, Nat.reduceEqDiff, Nat.reduceLeDiff, Int.reduceEq, h1, hx, hw, hc1, e95, e45, e46, f0, f1, f2]
        · have f0 : (c.toNat : Int) ≥ 97 := by omega
          have f1 : ¬ (c.toNat : Int) ≤ 122 := by omega
          have f2 : (c.toNat : Int) ≥ 48 := by omega
          have f3 : ¬ (c.toNat : Int) ≤ 57 := by omega
          simp only [go_sem, Nat.reduceLT, Nat.reduceAdd, Nat.reduceSub, Nat.reduceEqDiff, Nat.reduceLeDiff, Int.reduceEq, h1, hx, hw, hc1, e95, e45, e46, f0, f1, f2, f3]
      · have hcc : badC (c.toNat : Int) = false := by simpa using hbad
        have hp' : ∀ (i : Nat) (d : UInt8), i < j + 1 → l[i]? = some d → badC (d.toNat : Int) = false := fun i d hi hd => by
          rcases Nat.lt_succ_iff_lt_or_eq.1 hi with h | h
          · exact hp i d h hd
          · subst h; rw [hx] at hd; injection hd with hd; subst hd; exact hcc
        have hg : (97 ≤ (c.toNat : Int) ∧ (c.toNat : Int) ≤ 122) ∨ (48 ≤ (c.toNat : Int) ∧ (c.toNat : Int) ≤ 57) ∨ (c.toNat : Int) = 95 ∨ (c.toNat : Int) = 45 ∨ (c.toNat : Int) = 46 := by
          unfold badC at hcc
          simp only [Bool.and_eq_false_iff, Bool.or_eq_false_iff, decide_eq_false_iff_not, bne_eq_false_iff_eq] at hcc
          omega
        rcases hg with hc | hc | hc | hc | hc
        · have f0 : (c.toNat : Int) ≥ 97 := by omega
          have f1 : (c.toNat : Int) ≤ 122 := by omega
          simp only [go_sem, Nat.reduceLT, Nat.reduceAdd, Nat.reduceSub, Nat.reduceEqDiff, Nat.reduceLeDiff, Int.reduceEq, h1, hx, hw, hc1, wrap_succ hlt (by omega), f0, f1]
          exact ⟨_, by omega, j + 1, hlt, rfl, hp', rfl⟩
        · have f0 : ¬ (c.toNat : Int) ≥ 97 := by omega
          have f1 : (c.toNat : Int) ≥ 48 := by omega
          have f2 : (c.toNat : Int) ≤ 57 := by omega
          simp only [go_sem, Nat.reduceLT, Nat.reduceAdd, Nat.reduceSub, Nat.reduceEqDiff, Nat.reduceLeDiff, Int.reduceEq, h1, hx, hw, hc1, wrap_succ hlt (by omega), f0, f1, f2]
          exact ⟨_, by omega, j + 1, hlt, rfl, hp', rfl⟩
        · have f0 : ¬ (c.toNat : Int) ≥ 97 := by omega
          have f1 : (c.toNat : Int) ≥ 48 := by omega
          have f2 : ¬ (c.toNat : Int) ≤ 57 := by omega
          have b0 : ((c.toNat : Int) != 95) = false := by simp [hc]
          simp only [go_sem, Nat.reduceLT, Nat.reduceAdd, Nat.reduceSub, Nat.reduceEqDiff, Nat.reduceLeDiff, Int.reduceEq, h1, hx, hw, hc1, wrap_succ hlt (by omega), f0, f1, f2, b0]
          exact ⟨_, by omega, j + 1, hlt, rfl, hp', rfl⟩
        · have f0 : ¬ (c.toNat : Int) ≥ 97 := by omega
          have f1 : ¬ (c.toNat : Int) ≥ 48 := by omega
          have b0 : ((c.toNat : Int) != 95) = true := by simp; omega
          have b1 : ((c.toNat : Int) != 45) = false := by simp [hc]
          simp only [go_sem, Nat.reduceLT, Nat.reduceAdd, Nat.reduceSub, Nat.reduceEqDiff, Nat.reduceLeDiff, Int.reduceEq, h1, hx, hw, hc1, wrap_succ hlt (by omega), f0, f1, b0, b1]
          exact ⟨_, by omega, j + 1, hlt, rfl, hp', rfl⟩
        · have f0 : ¬ (c.toNat : Int) ≥ 97 := by omega
          have f1 : ¬ (c.toNat : Int) ≥ 48 := by omega
          have b0 : ((c.toNat : Int) != 95) = true := by simp; omega
          have b1 : ((c.toNat : Int) != 45) = true := by simp; omega
          have b2 : ((c.toNat : Int) != 46) = false := by simp [hc]
          simp only [go_sem, Nat.reduceLT, Nat.reduceAdd, Nat.reduceSub, Nat.reduceEqDiff, Nat.reduceLeDiff, Int.reduceEq, h1, hx, hw, hc1, wrap_succ hlt (by omega), f0, f1, b0, b1, b2]
          exact ⟨_, by omega, j + 1, hlt, rfl, hp', rfl⟩
    · have h1 : ¬ ((j : Int) < (l.length : Int)) := by omega
      obtain rfl : j = l.length := by omega
      rw [nameL_all fun i c hi => hp i c (List.getElem?_eq_some_iff.1 hi).1 hi]
      unfold nameEnd
      by_cases c1 : 1 ≤ l.length
      · have i1 : ((l.length : Int) ≥ 1) := by omega
        by_cases c2 : l.length ≤ 14
        · have i2 : ((l.length : Int) ≤ 14) := by omega
          cases c3 : (l == [46])
          · cases c4 : (l == [46, 46])
            · simp only [go_sem, Nat.reduceLT, Nat.reduceAdd, Nat.reduceSub, Nat.reduceEqDiff, Nat.reduceLeDiff, Int.reduceEq, h1, hc1, i1, i2, c1, c2, c3, c4]
            · simp only [go_sem, Nat.reduceLT, Nat.reduceAdd, Nat.reduceSub, Nat.reduceEqDiff, Nat.reduceLeDiff, Int.reduceEq, h1, hc1, i1, i2, c1, c2, c3, c4]
          · simp only [go_sem, Nat.reduceLT, Nat.reduceAdd, Nat.reduceSub, Nat.reduceEqDiff, Nat.reduceLeDiff, Int.reduceEq, h1, hc1, i1, i2, c1, c2, c3]
        · have i2 : ¬ ((l.length : Int) ≤ 14) := by omega
          simp only [go_sem, Nat.reduceLT, Nat.reduceAdd, Nat.reduceSub, Nat.reduceEqDiff, Nat.reduceLeDiff, Int.reduceEq, h1, hc1, i1, i2, c1, c2]
      · have i1 : ¬ ((l.length : Int) ≥ 1) := by omega
        simp only [go_sem, Nat.reduceLT, Nat.reduceAdd, Nat.reduceSub, Nat.reduceEqDiff, Nat.reduceLeDiff, Int.reduceEq, h1, hc1, i1, c1]
end Go.Proofs.YtblelojdboefjaaDoor.R
