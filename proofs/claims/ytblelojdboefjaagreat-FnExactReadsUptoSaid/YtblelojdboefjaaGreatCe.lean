/- Records: what both programs read of bytes. -/
import Derived.Test.YtblelojdboefjaaGreatCd
import Derived.Test.YtblelojdboefjaaGreatY0
set_option maxRecDepth 100000
set_option linter.unusedVariables false
set_option linter.unusedSimpArgs false
namespace Go.Proofs.YtblelojdboefjaaGreat.R
open Go

/-- A record. -/
structure PRec where
  Kind : Nat
  Seq : Nat
  Body : List UInt8
def recB (k q : Int) (b : List UInt8) : Bool := (decide (k ≥ 1) && decide (k ≤ 4)) && (decide (q ≥ 0) && decide (q ≤ 1000000)) && decide ((b.length : Int) ≤ 380)
theorem recI_ok (n : Nat) (hn : Big + 2 ≤ n) (k q : Int) (b : List UInt8) : pcall env n 81 [.c .agg [.sh false (.i .i64 k), .sh false (.i .i64 q), .sh true (.s 1 (b.map bpv))]] [] = some ⟨.c .one [.sh false (.b (recB k q b))], []⟩ := by
  refine walk (fn := Tryz.f81) (d := 1) hn rfl rfl rfl (Nat.le_of_ble_eq_true rfl) fun m hd => ?_
  unfold Tryz.f81
  have hf := fun a b c => from_ok m (hd (by decide)) a b c
  simp only [go_sem] at hf
  unfold recB
  cases h1 : (decide (k ≥ 1) && decide (k ≤ 4)) <;> cases h2 : (decide (q ≥ 0) && decide (q ≤ 1000000))
  all_goals simp only [go_sem, Nat.reduceLT, Nat.reduceAdd, Nat.reduceSub, Nat.reduceEqDiff, Nat.reduceLeDiff, Int.reduceEq, Int.reduceBEq, Int.reduceBNe, Int.reduceNeg, UInt8.reduceToNat, Nat.reduceBEq, hf, h1, h2]
theorem recS_ok (n : Nat) (hn : Big + 2 ≤ n) (k q : Int) (b : List UInt8) : pcall env n 48 [.c .agg [.sh false (.i .i64 k), .sh false (.i .i64 q), .sh true (.s 1 (b.map bpv))]] [] = some ⟨.c .one [.sh false (.b (recB k q b))], []⟩ := by
  refine walk (fn := Tryz.f48) (d := 1) hn rfl rfl rfl (Nat.le_of_ble_eq_true rfl) fun m hd => ?_
  unfold Tryz.f48
  have hf := fun a b c => l1In_ok m (hd (by decide)) a b c
  simp only [go_sem] at hf
  unfold recB
  cases h1 : (decide (k ≥ 1) && decide (k ≤ 4)) <;> cases h2 : (decide (q ≥ 0) && decide (q ≤ 1000000))
  all_goals simp only [go_sem, Nat.reduceLT, Nat.reduceAdd, Nat.reduceSub, Nat.reduceEqDiff, Nat.reduceLeDiff, Int.reduceEq, Int.reduceBEq, Int.reduceBNe, Int.reduceNeg, UInt8.reduceToNat, Nat.reduceBEq, hf, h1, h2]

/-- What a reader over x reads as a record. -/
def rec3 (x : List UInt8) : PRec × (Nat × Bool) :=
  let a := rN x (0, true)
  let b := rN x a.2
  let c := rT x b.2
  (⟨a.1, b.1, c.1⟩, c.2)
def getR (b : List UInt8) : Option PRec := match openB b with
  | none => none
  | some x => if rD x (rec3 x).2 = true ∧ recB (rec3 x).1.Kind (rec3 x).1.Seq (rec3 x).1.Body = true then some (rec3 x).1 else none
def recCs (r : Option PRec) : List CV := match r with
  | some x => [.sh false (.i .i64 (x.Kind : Int)), .sh false (.i .i64 (x.Seq : Int)), .ow false 1 (x.Body.map bpv), .sh false (.b true)]
  | none => [.sh false (.i .i64 0), .sh false (.i .i64 0), .ow false 1 [], .sh false (.b false)]
def tupR (l : List CV) : SV := .c (.tup [(true, 3), (false, 1)]) l
theorem rowsOf_mk {l : List UInt8} : rowsOf ⟨⟨l⟩⟩ = l.map bpv := rfl
theorem openB_len {b x : List UInt8} (h : openB b = some x) : x.length ≤ b.length := by
  unfold openB at h
  split at h
  · injection h with h; subst h; rw [List.length_take]; omega
  · simp at h
set_option maxHeartbeats 1000000 in
theorem getRecI_ok (n : Nat) (hn : Big + 4 ≤ n) (b : List UInt8) (hb : b.length ≤ 4398046511104) : pcall env n 50 [.c .one [.sh true (.s 1 ((b).map bpv))]] [] = some ⟨tupR (recCs (getR b)), []⟩ := by
  refine walk (fn := Tryz.f50) (d := 3) hn rfl rfl rfl (Nat.le_of_ble_eq_true rfl) fun m hd => ?_
  unfold Tryz.f50
  have ho := opened_ok m (hd (by decide)) b hb
  cases hop : openB b with
  | none =>
    have hG : getR b = none := by unfold getR; rw [hop]
    rw [hG]
    have h0 : Rdr [] (0, false) (.ow false 1 []) := ⟨Nat.le_refl _, .inr ⟨rfl, rfl⟩⟩
    have e1 := num_ok m (hd (by decide)) (b := []) (by simp) h0
    have e2 := text_ok m (hd (by decide)) (b := []) (by simp) h0
    have e3 := done_ok m (hd (by decide)) (b := []) (by simp) h0
    have v1 : rN [] (0, false) = (0, (0, false)) := rfl
    have v2 : rT [] (0, false) = ([], (0, false)) := rfl
    have v3 : rD [] (0, false) = false := rfl
    simp only [v1, v2, v3, rdI, go_sem] at e1 e2 e3
    simp only [hop, tup2, opnCs] at ho
    simp only [go_sem, Nat.reduceLT, Nat.reduceAdd, Nat.reduceSub, Nat.reduceEqDiff, Nat.reduceLeDiff, Int.reduceEq, Int.reduceBEq, Int.reduceBNe, Int.reduceNeg, UInt8.reduceToNat, Nat.reduceBEq, ho, e1, e2, e3, tupR, recCs]
  | some x =>
    have hx := openB_len hop
    have h0 : Rdr x (0, true) (.sh true (.s 1 (x.map bpv))) := ⟨Nat.zero_le _, .inl ⟨true, rfl⟩⟩
    have e1 := num_ok m (hd (by decide)) (by omega) h0
    have e2 := num_ok m (hd (by decide)) (by omega) h0.num
    have e3 := text_ok m (hd (by decide)) (by omega) h0.num.num
    have e4 := done_ok m (hd (by decide)) (by omega) h0.num.num.text
    have e5 := fun k q b => recI_ok m (hd (by decide)) k q b
    simp only [hop, tup2, opnCs] at ho
    rcases hA : rN x (0, true) with ⟨v1, a1, o1⟩
    rw [hA] at e1 e2 e3 e4
    rcases hB : rN x (a1, o1) with ⟨v2, a2, o2⟩
    simp only [hB] at e1 e2 e3 e4
    rcases hC : rT x (a2, o2) with ⟨v3, a3, o3⟩
    simp only [hC] at e1 e2 e3 e4
    have hr : rec3 x = (⟨v1, v2, v3⟩, (a3, o3)) := by simp only [rec3, hA, hB, hC]
    have hG : getR b = if rD x (a3, o3) = true ∧ recB v1 v2 v3 = true then some ⟨v1, v2, v3⟩ else none := by simp only [getR, hop, hr]
    simp only [rdI, go_sem] at e1 e2 e3 e4
    cases hD : rD x (a3, o3)
    · rw [hD] at e4 hG
      rw [hG, if_neg (by simp)]
      simp only [go_sem, Nat.reduceLT, Nat.reduceAdd, Nat.reduceSub, Nat.reduceEqDiff, Nat.reduceLeDiff, Int.reduceEq, Int.reduceBEq, Int.reduceBNe, Int.reduceNeg, UInt8.reduceToNat, Nat.reduceBEq, ho, e1, e2, e3, e4, rowsOf_mk, tupR, recCs]
    · rw [hD] at e4 hG
      cases hR : recB v1 v2 v3
      · rw [hG, if_neg (by simp [hR])]
        simp only [go_sem, Nat.reduceLT, Nat.reduceAdd, Nat.reduceSub, Nat.reduceEqDiff, Nat.reduceLeDiff, Int.reduceEq, Int.reduceBEq, Int.reduceBNe, Int.reduceNeg, UInt8.reduceToNat, Nat.reduceBEq, ho, e1, e2, e3, e4, e5, hR, rowsOf_mk, tupR, recCs]
      · rw [hG, if_pos ⟨rfl, hR⟩]
        simp only [go_sem, Nat.reduceLT, Nat.reduceAdd, Nat.reduceSub, Nat.reduceEqDiff, Nat.reduceLeDiff, Int.reduceEq, Int.reduceBEq, Int.reduceBNe, Int.reduceNeg, UInt8.reduceToNat, Nat.reduceBEq, ho, e1, e2, e3, e4, e5, hR, rowsOf_mk, tupR, recCs]
end Go.Proofs.YtblelojdboefjaaGreat.R
