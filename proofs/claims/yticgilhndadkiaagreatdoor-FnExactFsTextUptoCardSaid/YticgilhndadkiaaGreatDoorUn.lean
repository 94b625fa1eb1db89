/- Looking up entries; walking along a path. -/
import Derived.Test.YticgilhndadkiaaGreatDoorUm
set_option maxRecDepth 100000
set_option linter.unusedVariables false
set_option linter.unusedSimpArgs false
namespace Go.Proofs.YticgilhndadkiaaGreatDoor.R
open Go

/-- The number that a name leads to; 0: there is none. -/
def entI (es : List TEnt) (nm : List UInt8) : Int := match es.find? (fun e => e.Name.toList == nm) with
  | some e => e.Ino
  | none => 0
theorem ent_some {es : List TEnt} {nm : List UInt8} {j : Nat} {a : TEnt} (hx : es[j]? = some a) (ha : (a.Name.toList == nm) = true) (hp : ∀ (i : Nat) (y : TEnt), i < j → es[i]? = some y → (y.Name.toList == nm) = false) : entI es nm = a.Ino := by
  have : es.find? (fun e => e.Name.toList == nm) = some a := by
    rw [List.find?_eq_some_iff_getElem]
    obtain ⟨hj, hja⟩ := List.getElem?_eq_some_iff.1 hx
    exact ⟨ha, j, hj, hja, fun i hi => by simpa using hp i _ hi (List.getElem?_eq_getElem (by omega))⟩
  unfold entI; rw [this]
theorem ent_none {es : List TEnt} {nm : List UInt8} (hp : ∀ (i : Nat) (y : TEnt), i < es.length → es[i]? = some y → (y.Name.toList == nm) = false) : entI es nm = 0 := by
  have : es.find? (fun e => e.Name.toList == nm) = none := by
    rw [List.find?_eq_none]
    intro y hy
    obtain ⟨i, hi⟩ := List.getElem?_of_mem hy
    simpa using hp i y (List.getElem?_eq_some_iff.1 hi).1 hi
  unfold entI; rw [this]

set_option maxHeartbeats 1000000 in
theorem entImpl_ok (n : Nat) (hn : Big + 2 ≤ n) (x : TInode) (hxo : x.ok) (s : ByteArray) : pcall env n 58 [.c .agg (x.pv.map argC'), pvSV (.t s)] [] = some ⟨pvSV (.i .i64 (entI x.Ents s.toList)), []⟩ := by
  obtain ⟨m, rfl⟩ := ex_pred hn
  have hB := big_bd
  have hbd : Bd = 1048576 := rfl
  have hl := hxo.Ents.2
  refine wq_eq (wq_pcall (fn := Tryz.f58) rfl rfl rfl (Nat.le_of_ble_eq_true rfl) ?_)
  unfold Tryz.f58
  simp only [go_sem, Nat.reduceLT, Nat.reduceAdd, Nat.reduceSub, Nat.reduceEqDiff, Nat.reduceLeDiff, Int.reduceEq, Int.reduceBEq, Int.reduceBNe, Int.reduceNeg, UInt8.reduceToNat, Nat.reduceBEq]
  refine wq_loop_at (fun r σ => ∃ j : Nat, j ≤ x.Ents.length ∧ r = x.Ents.length - j ∧ (∀ (i : Nat) (y : TEnt), i < j → x.Ents[i]? = some y → (y.Name.toList == s.toList) = false) ∧ σ = slots 21 [(1, .c .one [.sh false (.t s)]), (2, .c .box [.sh false (.i .i64 x.Ino), .sh false (.i .i64 x.Kind), .sh false (.i .i64 x.Links), .sh true (.s 1 (x.Data.map bpv)), .sh true (.s 2 (x.Ents.map TEnt.pv)), .sh true (.s 2 (x.Attrs.map TAttr.pv))]), (8, .c .one [.sh true (.s 2 (x.Ents.map TEnt.pv))]), (9, .c .one [.sh false (.i .i64 (x.Ents.length : Nat))]), (10, .c .one [.sh false (.i .i64 (j : Nat))])]) x.Ents.length (by omega) ?_ ?_
  · simp only [go_sem, Nat.reduceLT, Nat.reduceAdd, Nat.reduceSub, Nat.reduceEqDiff, Nat.reduceLeDiff, Int.reduceEq, Int.reduceBEq, Int.reduceBNe, Int.reduceNeg, UInt8.reduceToNat, Nat.reduceBEq]
    exact ⟨0, Nat.zero_le _, rfl, fun i y hi => absurd hi (Nat.not_lt_zero _), rfl⟩
  · rintro r σ ⟨j, hj, rfl, hp, rfl⟩
    by_cases hlt : j < x.Ents.length
    · have h1 : ((j : Int) < (x.Ents.length : Int)) := by omega
      have hx : x.Ents[j]? = some x.Ents[j] := List.getElem?_eq_getElem hlt
      generalize x.Ents[j] = a at hx
      cases ha : (a.Name.toList == s.toList) with
      | true =>
        rw [ent_some hx ha hp]
        simp only [go_sem, Nat.reduceLT, Nat.reduceAdd, Nat.reduceSub, Nat.reduceEqDiff, Nat.reduceLeDiff, Int.reduceEq, Int.reduceBEq, Int.reduceBNe, Int.reduceNeg, UInt8.reduceToNat, Nat.reduceBEq, h1, hx, ha]
      | false =>
        simp only [go_sem, Nat.reduceLT, Nat.reduceAdd, Nat.reduceSub, Nat.reduceEqDiff, Nat.reduceLeDiff, Int.reduceEq, Int.reduceBEq, Int.reduceBNe, Int.reduceNeg, UInt8.reduceToNat, Nat.reduceBEq, h1, hx, ha, wrap_succ hlt (by omega)]
        refine ⟨_, by omega, j + 1, hlt, rfl, fun i y hi hy => ?_, by with_reducible rfl⟩
        rcases Nat.lt_succ_iff_lt_or_eq.1 hi with h | h
        · exact hp i y h hy
        · subst h; rw [hx] at hy; injection hy with hy; subst hy; exact ha
    · have h1 : ¬ ((j : Int) < (x.Ents.length : Int)) := by omega
      obtain rfl : j = x.Ents.length := by omega
      rw [ent_none hp]
      simp only [go_sem, Nat.reduceLT, Nat.reduceAdd, Nat.reduceSub, Nat.reduceEqDiff, Nat.reduceLeDiff, Int.reduceEq, Int.reduceBEq, Int.reduceBNe, Int.reduceNeg, UInt8.reduceToNat, Nat.reduceBEq, h1]
set_option maxHeartbeats 1000000 in
theorem entSpec_ok (n : Nat) (hn : Big + 2 ≤ n) (x : TInode) (hxo : x.ok) (s : ByteArray) : pcall env n 88 [.c .agg (x.pv.map argC'), pvSV (.t s)] [] = some ⟨pvSV (.i .i64 (entI x.Ents s.toList)), []⟩ := by
  obtain ⟨m, rfl⟩ := ex_pred hn
  have hB := big_bd
  have hbd : Bd = 1048576 := rfl
  have hl := hxo.Ents.2
  refine wq_eq (wq_pcall (fn := Tryz.f88) rfl rfl rfl (Nat.le_of_ble_eq_true rfl) ?_)
  unfold Tryz.f88
  simp only [go_sem, Nat.reduceLT, Nat.reduceAdd, Nat.reduceSub, Nat.reduceEqDiff, Nat.reduceLeDiff, Int.reduceEq, Int.reduceBEq, Int.reduceBNe, Int.reduceNeg, UInt8.reduceToNat, Nat.reduceBEq]
  refine wq_loop_at (fun r σ => ∃ j : Nat, j ≤ x.Ents.length ∧ r = x.Ents.length - j ∧ (∀ (i : Nat) (y : TEnt), i < j → x.Ents[i]? = some y → (y.Name.toList == s.toList) = false) ∧ σ = slots 27 [(1, .c .one [.sh false (.t s)]), (2, .c .box [.sh false (.i .i64 x.Ino), .sh false (.i .i64 x.Kind), .sh false (.i .i64 x.Links), .sh true (.s 1 (x.Data.map bpv)), .sh true (.s 2 (x.Ents.map TEnt.pv)), .sh true (.s 2 (x.Attrs.map TAttr.pv))]), (5, .c .one [.sh false (.i .i64 (j : Nat))])]) x.Ents.length (by omega) ?_ ?_
  · simp only [go_sem, Nat.reduceLT, Nat.reduceAdd, Nat.reduceSub, Nat.reduceEqDiff, Nat.reduceLeDiff, Int.reduceEq, Int.reduceBEq, Int.reduceBNe, Int.reduceNeg, UInt8.reduceToNat, Nat.reduceBEq]
    exact ⟨0, Nat.zero_le _, rfl, fun i y hi => absurd hi (Nat.not_lt_zero _), rfl⟩
  · rintro r σ ⟨j, hj, rfl, hp, rfl⟩
    by_cases hlt : j < x.Ents.length
    · have h1 : ((j : Int) < (x.Ents.length : Int)) := by omega
      have hx : x.Ents[j]? = some x.Ents[j] := List.getElem?_eq_getElem hlt
      generalize x.Ents[j] = a at hx
      cases ha : (a.Name.toList == s.toList) with
      | true =>
        rw [ent_some hx ha hp]
        simp only [go_sem, Nat.reduceLT, Nat.reduceAdd, Nat.reduceSub, Nat.reduceEqDiff, Nat.reduceLeDiff, Int.reduceEq, Int.reduceBEq, Int.reduceBNe, Int.reduceNeg, UInt8.reduceToNat, Nat.reduceBEq, h1, hx, ha]
      | false =>
        simp only [go_sem, Nat.reduceLT, Nat.reduceAdd, Nat.reduceSub, Nat.reduceEqDiff, Nat.reduceLeDiff, Int.reduceEq, Int.reduceBEq, Int.reduceBNe, Int.reduceNeg, UInt8.reduceToNat, Nat.reduceBEq, h1, hx, ha, wrap_succ hlt (by omega)]
        refine ⟨_, by omega, j + 1, hlt, rfl, fun i y hi hy => ?_, by with_reducible rfl⟩
        rcases Nat.lt_succ_iff_lt_or_eq.1 hi with h | h
        · exact hp i y h hy
        · subst h; rw [hx] at hy; injection hy with hy; subst hy; exact ha
    · have h1 : ¬ ((j : Int) < (x.Ents.length : Int)) := by omega
      obtain rfl : j = x.Ents.length := by omega
      rw [ent_none hp]
      simp only [go_sem, Nat.reduceLT, Nat.reduceAdd, Nat.reduceSub, Nat.reduceEqDiff, Nat.reduceLeDiff, Int.reduceEq, Int.reduceBEq, Int.reduceBNe, Int.reduceNeg, UInt8.reduceToNat, Nat.reduceBEq, h1]

end Go.Proofs.YticgilhndadkiaaGreatDoor.R
