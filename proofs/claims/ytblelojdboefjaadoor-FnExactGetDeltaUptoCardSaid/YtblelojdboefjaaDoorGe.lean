/- The first program's reading of a difference. -/
import Derived.Test.YtblelojdboefjaaDoorGb
import Derived.Test.YtblelojdboefjaaDoorGc
set_option maxRecDepth 100000
set_option linter.unusedVariables false
set_option linter.unusedSimpArgs false
namespace Go.Proofs.YtblelojdboefjaaDoor.R
open Go

/-- The other orders of 'add to a list what a call answers'. -/
def ordA : List (List Nat) := [[0, 2, 1, 3, 4, 5, 6, 7], [0, 2, 3, 1, 4, 5, 6, 7], [0, 2, 3, 4, 1, 5, 6, 7], [2, 0, 1, 3, 4, 5, 6, 7], [2, 0, 3, 1, 4, 5, 6, 7], [2, 0, 3, 4, 1, 5, 6, 7], [2, 3, 0, 1, 4, 5, 6, 7], [2, 3, 0, 4, 1, 5, 6, 7], [2, 3, 4, 0, 1, 5, 6, 7]]
theorem openB_len {b x : List UInt8} (h : openB b = some x) : x.length ≤ b.length := by
  unfold openB at h
  split at h
  · injection h with h; subst h; rw [List.length_take]; omega
  · simp at h
theorem rep_mem {α : Type} {f : RSt → α × RSt} {y : α} : ∀ {k s}, y ∈ (rep f k s).1 → ∃ w, y = (f w).1
  | 0, s, h => by simp [rep] at h
  | k + 1, s, h => by
    simp only [rep, List.mem_append, List.mem_singleton] at h
    rcases h with h | h
    · exact rep_mem h
    · exact ⟨_, h⟩
section
variable {x : List UInt8} (hx : x.length ≤ Bd)
include hx
theorem rT_bd (s : RSt) : (rT x s).1.length ≤ Bd := by
  unfold rT
  split
  · split
    · rename_i v q e; have h1 := getT_lt e; show v.length ≤ Bd; omega
    · exact Nat.zero_le _
  · exact Nat.zero_le _
theorem rS_ok (s : RSt) : okS (rS x s).1 := rT_bd hx s
omit hx in
theorem rN_bd (s : RSt) : inR ((rN x s).1 : Int) := by
  have : (rN x s).1 ≤ 1000000 := by
    unfold rN
    split
    · split
      · rename_i v q e; exact (getN_lt e).1
      · exact Nat.zero_le _
    · exact Nat.zero_le _
  unfold inR
  omega
theorem rC_bd (s : RSt) : (rC x s).1 ≤ Bd := by have := rC_le (b := x) (s := s); omega
theorem rA_ok (s : RSt) : (∀ y ∈ (rA x s).1, TAttr.ok y) ∧ (rA x s).1.length ≤ Bd := by
  refine ⟨fun y hy => ?_, ?_⟩
  · obtain ⟨w, rfl⟩ := rep_mem hy
    exact ⟨rS_ok hx w, rS_ok hx _⟩
  · unfold rA; rw [rep_len]; exact rC_bd hx s
theorem rE_ok (s : RSt) : TEntry.ok (rE x s).1 := ⟨rS_ok hx _, rN_bd _, ⟨fun _ _ => trivial, rT_bd hx _⟩, rA_ok hx _, rS_ok hx _⟩
theorem rDel_ok (s : RSt) : TDelta.ok (rDel x s).1 := by
  refine ⟨rA_ok hx s, ⟨fun y hy => ?_, ?_⟩, ⟨fun y hy => ?_, ?_⟩⟩
  · obtain ⟨w, rfl⟩ := rep_mem hy
    exact rS_ok hx w
  · show (rG x _).1.length ≤ Bd; unfold rG; rw [rep_len]; exact rC_bd hx _
  · obtain ⟨w, rfl⟩ := rep_mem hy
    exact rE_ok hx w
  · show (rF x _).1.length ≤ Bd; unfold rF; rw [rep_len]; exact rC_bd hx _
end
/-- What the first program reads. -/
def srcI (b : List UInt8) : List UInt8 × Bool := match openB b with
  | some x => (x, decide ((b.length : Int) ≤ 20000))
  | none => ([], false)
def getDI (b : List UInt8) : Option TDelta := if (rN (srcI b).1 (0, (srcI b).2)).1 = 7 ∧ okI (srcI b).1 (rN (srcI b).1 (0, (srcI b).2)).2 = true then some (rDel (srcI b).1 (rN (srcI b).1 (0, (srcI b).2)).2).1 else none
def tupD (l : List CV) : SV := .c (.tup [(true, 3), (false, 1)]) l
def delCs (r : Option TDelta) : List CV := match r with
  | some d => [.ow false 2 (d.Attrs.map TAttr.pv), .ow false 1 (d.Gone.map spv), .ow false 5 (d.Fresh.map TEntry.ov), .sh false (.b true)]
  | none => [.ow false 2 [], .ow false 1 [], .ow false 5 [], .sh false (.b false)]
set_option maxHeartbeats 4000000 in
theorem getDeltaI_ok (n : Nat) (hn : Big + 12 ≤ n) {b : List UInt8} (hb : b.length ≤ 1048576) : pcall env n 16 [.c .one [.sh true (.s 1 ((b).map bpv))]] [] = some ⟨tupD (delCs (getDI b)), []⟩ := by
  refine walk (fn := Tryd.f16) (d := 11) hn rfl rfl rfl (Nat.le_of_ble_eq_true rfl) fun m hd => ?_
  unfold Tryd.f16
  have ho := opened_ok m (hd (by decide)) b (by omega)
  have hG : getDI b = if (rN (srcI b).1 (0, (srcI b).2)).1 = 7 ∧ okI (srcI b).1 (rN (srcI b).1 (0, (srcI b).2)).2 = true then some (rDel (srcI b).1 (rN (srcI b).1 (0, (srcI b).2)).2).1 else none := rfl
  obtain ⟨c0, hc0⟩ : ∃ c0, c0 = (match openB b with | some x => CV.sh true (.s 1 (x.map bpv)) | none => CV.ow false 1 []) := ⟨_, rfl⟩
  have hR : Rdc (srcI b).1 (0, (srcI b).2) c0 ∧ (srcI b).1.length ≤ 1048576 := by
    rw [hc0]
    unfold srcI
    cases e : openB b with
    | some x => exact ⟨⟨⟨Nat.zero_le _, .inl ⟨true, rfl⟩⟩, fun h => by cases h⟩, by have := openB_len e; simp only; omega⟩
    | none => exact ⟨⟨⟨Nat.zero_le _, .inr ⟨rfl, rfl⟩⟩, fun _ => rfl⟩, by simp⟩
  obtain ⟨h0, hx⟩ := hR
  obtain ⟨x, hX⟩ : ∃ x, (srcI b).1 = x := ⟨_, rfl⟩
  obtain ⟨o0, hO⟩ : ∃ o, (srcI b).2 = o := ⟨_, rfl⟩
  rw [hX, hO] at hG h0
  rw [hX] at hx
  have e1 := num_ok m (hd (by decide)) (by omega) h0.1
  have h1 := h0.num
  have e2 := rdAttrs_ok m (hd (by decide)) hx h1
  have h2 := h1.rd rd_A
  have e3 := rdCount_ok m (hd (by decide)) (by omega) h2
  have h3 := h2.rd rd_C
  have h4 := h2.rd (f := rG x) ⟨fun s h => (rd_rep rd_S _).no _ (rd_C.no s h), fun s h => (rd_rep rd_S _).le _ (rd_C.le s h)⟩
  have e4 := rdCount_ok m (hd (by decide)) (by omega) h4
  have h5 := h4.rd rd_C
  have hT := fun (w : RSt) (hw : Rdc x w c0) => text_ok m (hd (by decide)) (by omega) hw.1
  have hNn := fun (w : RSt) (hw : Rdc x w c0) => num_ok m (hd (by decide)) (by omega) hw.1
  have hAa := fun (w : RSt) (hw : Rdc x w c0) => rdAttrs_ok m (hd (by decide)) hx hw
  rcases hA : rN x (0, o0) with ⟨v, w1⟩
  rw [hA] at e1 h1 hG
  simp only [hA] at e2 h2 e3 h3 h4 e4 h5
  have e6 := deltaImpl_ok m (hd (by decide)) (rDel x w1).1 (rDel_ok hx w1)
  have e5 := done_ok m (hd (by decide)) (by omega) (h4.rd (f := rF x) ⟨fun s h => (rd_rep rd_E _).no _ (rd_C.no s h), fun s h => (rd_rep rd_E _).le _ (rd_C.le s h)⟩).1
  have hD : rDel x w1 = (⟨(rA x w1).1, (rG x (rA x w1).2).1, (rF x (rG x (rA x w1).2).2).1⟩, (rF x (rG x (rA x w1).2).2).2) := rfl
  have hgu : ∀ s, rG x s = rep (rS x) (rC x s).1 (rC x s).2 := fun _ => rfl
  have hfu : ∀ s, rF x s = rep (rE x) (rC x s).1 (rC x s).2 := fun _ => rfl
  unfold okI at hG
  rw [hD] at e6 hG
  simp only at hG h1 e1 e6
  rcases hB : rA x w1 with ⟨la, w2⟩
  simp only [hB] at e2 h2 e3 h3 h4 e4 h5 e5 e6 hG
  have hgw := hgu w2
  have hk1 := rC_le (b := x) (s := w2)
  rcases hC : rC x w2 with ⟨k, w3⟩
  simp only [hC] at e3 h3 hgw hk1
  rcases hE : rG x w2 with ⟨lg, w4⟩
  rw [hE] at hgw
  simp only [hE] at h4 e4 h5 e5 e6 hG
  have hfw := hfu w4
  have hk2 := rC_le (b := x) (s := w4)
  rcases hF : rC x w4 with ⟨k2, w5⟩
  simp only [hF] at e4 h5 hfw hk2
  rcases hH : rF x w4 with ⟨lf, w6⟩
  rw [hH] at hfw
  simp only [hH] at e5 e6 hG
  have hr1 := fun j => h3.rd (rd_rep rd_S j)
  have hr2 := fun j => h5.rd (rd_rep rd_E j)
  cases hop : openB b
  all_goals
    simp only [hop, tup2, opnCs] at ho hc0
    unfold srcI at hX hO
    simp only [hop] at hX hO
    try rw [hX] at ho hc0
    try (have hO2 : false = o0 := hO; subst hO2)
    simp only [rdI, hc0, go_sem] at e1 e2 e3 e4 e5
    simp only [go_sem, Nat.reduceLT, Nat.reduceAdd, Nat.reduceSub, Nat.reduceEqDiff, Nat.reduceLeDiff, Int.reduceEq, Int.reduceBEq, Int.reduceBNe, Int.reduceNeg, UInt8.reduceToNat, Nat.reduceBEq, ho, hO, e1, e2, e3, Nat.zero_mul, Nat.zero_le, Bool.and_self]
    refine wq_count k (fun j => slots 84 [(2, .c .box [.ow false 2 [], .ow false 1 [], .ow false 5 []]), (6, .bp 23 0), (7, .c .one [.sh false (.i .i64 ((v : Nat)))]), (8, .c .box [.ow false 2 (la.map TAttr.pv), .ow false 1 ((rep (rS x) j w3).1.map spv), .ow false 5 []]), (23, .c .box (rdI c0 (rep (rS x) j w3).2)), (31, .c .one [.sh false (.i .i64 ((k : Nat)))]), (32, .c .one [.sh false (.i .i64 (j : Nat))])]) (fun _ => True) (hd (Nat.zero_le _)) (by omega) ?_ (fun j hj h6 hw _ => ?_) (fun _ => ?_)
    · simp only [go_sem, Nat.reduceLT, Nat.reduceAdd, Nat.reduceSub, Nat.reduceEqDiff, Nat.reduceLeDiff, Int.reduceEq, Int.reduceBEq, Int.reduceBNe, Int.reduceNeg, UInt8.reduceToNat, Nat.reduceBEq]; exact fin' (by simp only [rdI, hc0]; rfl)
    · have hj0 := hr1 j
      have hlen := rep_len (f := rS x) (k := j) (s := w3)
      have hlim : LIM = 70368744177664 := rfl
      have e7 : rep (rS x) (j + 1) w3 = ((rep (rS x) j w3).1 ++ [(rS x (rep (rS x) j w3).2).1], (rS x (rep (rS x) j w3).2).2) := rfl
      rw [e7]
      clear e7
      generalize rep (rS x) j w3 = R at hj0 hlen ⊢
      obtain ⟨L, w⟩ := R
      simp only at hj0 hlen
      have g1 : (L.length + 1) * 16 ≤ LIM := by omega
      have t1 := hT w hj0
      rcases hB : rT x w with ⟨v1, w1⟩
      simp only [hB] at t1
      simp only [rdI, hc0, go_sem] at t1
      simp only [rdI, hc0]
      simp only [go_sem, Nat.reduceLT, Nat.reduceAdd, Nat.reduceSub, Nat.reduceEqDiff, Nat.reduceLeDiff, Int.reduceEq, Int.reduceBEq, Int.reduceBNe, Int.reduceNeg, UInt8.reduceToNat, Nat.reduceBEq, h6, hw, t1, g1, Bool.and_self]
      refine wq_all (o := [0, 1, 2, 3, 4, 5, 6, 7]) (os := ordA) (by kernel_rfl) ?_
      simp only [go_sem, Nat.reduceLT, Nat.reduceAdd, Nat.reduceSub, Nat.reduceEqDiff, Nat.reduceLeDiff, Int.reduceEq, Int.reduceBEq, Int.reduceBNe, Int.reduceNeg, UInt8.reduceToNat, Nat.reduceBEq, ordA, h6, hw, t1, g1, Bool.and_self]
      exact fin' (by first | rfl | (simp only [rdI, hc0, rS, hB, List.map_append]; rfl) | skip)
    · rw [← hgw]
      simp only [rdI, hc0]
      simp only [go_sem, Nat.reduceLT, Nat.reduceAdd, Nat.reduceSub, Nat.reduceEqDiff, Nat.reduceLeDiff, Int.reduceEq, Int.reduceBEq, Int.reduceBNe, Int.reduceNeg, UInt8.reduceToNat, Nat.reduceBEq, e4, Bool.and_self]
      refine wq_count k2 (fun j => slots 84 [(2, .c .box [.ow false 2 [], .ow false 1 [], .ow false 5 []]), (6, .bp 23 0), (7, .c .one [.sh false (.i .i64 ((v : Nat)))]), (8, .c .box [.ow false 2 (la.map TAttr.pv), .ow false 1 (lg.map spv), .ow false 5 ((rep (rE x) j w5).1.map TEntry.ov)]), (23, .c .box (rdI c0 (rep (rE x) j w5).2)), (43, .c .one [.sh false (.i .i64 ((k2 : Nat)))]), (44, .c .one [.sh false (.i .i64 (j : Nat))])]) (fun _ => True) (hd (Nat.zero_le _)) (by omega) ?_ (fun j hj h6 hw _ => ?_) (fun _ => ?_)
      · simp only [go_sem, Nat.reduceLT, Nat.reduceAdd, Nat.reduceSub, Nat.reduceEqDiff, Nat.reduceLeDiff, Int.reduceEq, Int.reduceBEq, Int.reduceBNe, Int.reduceNeg, UInt8.reduceToNat, Nat.reduceBEq]; exact fin' (by first | rfl | (simp only [rdI, hc0]; rfl))
      · have hj0 := hr2 j
        have hlen := rep_len (f := rE x) (k := j) (s := w5)
        have hlim : LIM = 70368744177664 := rfl
        have e7 : rep (rE x) (j + 1) w5 = ((rep (rE x) j w5).1 ++ [(rE x (rep (rE x) j w5).2).1], (rE x (rep (rE x) j w5).2).2) := rfl
        rw [e7]
        clear e7
        generalize rep (rE x) j w5 = R at hj0 hlen ⊢
        obtain ⟨L, w⟩ := R
        simp only at hj0 hlen
        have g1 : (L.length + 1) * 88 ≤ LIM := by omega
        have t1 := hT w hj0
        have j1 := hj0.text
        have t2 := hNn _ j1
        have j2 := j1.num
        have t3 := hT _ j2
        have j3 := j2.text
        have t4 := hAa _ j3
        have j4 := j3.rd rd_A
        have t5 := hT _ j4
        rcases q1 : rT x w with ⟨v1, u1⟩
        simp only [q1] at t1 t2 t3 t4 t5
        rcases q2 : rN x u1 with ⟨v2, u2⟩
        simp only [q2] at t2 t3 t4 t5
        rcases q3 : rT x u2 with ⟨v3, u3⟩
        simp only [q3] at t3 t4 t5
        rcases q4 : rA x u3 with ⟨v4, u4⟩
        simp only [q4] at t4 t5
        rcases q5 : rT x u4 with ⟨v5, u5⟩
        simp only [q5] at t5
        have hS : rE x w = (⟨⟨⟨v1⟩⟩, (v2 : Int), v3, v4, ⟨⟨v5⟩⟩⟩, u5) := by simp only [rE, rS, q1, q2, q3, q4, q5]
        rw [hS]
        simp only [rdI, hc0, go_sem] at t1 t2 t3 t4 t5
        simp only [rdI, hc0]
        simp only [go_sem, Nat.reduceLT, Nat.reduceAdd, Nat.reduceSub, Nat.reduceEqDiff, Nat.reduceLeDiff, Int.reduceEq, Int.reduceBEq, Int.reduceBNe, Int.reduceNeg, UInt8.reduceToNat, Nat.reduceBEq, h6, hw, t1, t2, t3, t4, t5, g1, Bool.and_self]
        exact fin' (by simp only [rdI, hc0, List.map_append]; rfl)
      · rw [← hfw]
        have e8 : ((v : Int) != 7) = !decide (v = 7) := neN v 7
        simp only [go_sem] at e6
        rw [hG]
        simp only [rdI, hc0]
        cases z1 : rD x w6 <;> by_cases z2 : v = 7 <;> cases z3 : deltaB ⟨la, lg, lf⟩
        all_goals
          simp only [z1, z2, z3] at e5 e6 e8
          simp only [go_sem, Nat.reduceLT, Nat.reduceAdd, Nat.reduceSub, Nat.reduceEqDiff, Nat.reduceLeDiff, Int.reduceEq, Int.reduceBEq, Int.reduceBNe, Int.reduceNeg, UInt8.reduceToNat, Nat.reduceBEq, e5, e6, e8, z1, z2, z3, Bool.and_self, tupD, delCs]
end Go.Proofs.YtblelojdboefjaaDoor.R
