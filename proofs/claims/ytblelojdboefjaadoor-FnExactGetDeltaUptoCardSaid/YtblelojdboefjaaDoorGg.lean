/- The other program's reading of a difference, walked. -/
import Derived.Test.YtblelojdboefjaaDoorGf
set_option maxRecDepth 100000
set_option linter.unusedVariables false
set_option linter.unusedSimpArgs false
namespace Go.Proofs.YtblelojdboefjaaDoor.R
open Go

theorem join {P Q : Prop} (h : P → Q) (p : P) : Q := h p
section
variable {E : Env} {call : CallF} {N n : Nat} {b : Code} {K : Kont (Ex × St)} {σ τ : St}
/-- A loop, begun in any state whose live slots are those of τ. -/
def Lp (E : Env) (call : CallF) (N n : Nat) (b : Code) (K : Kont (Ex × St)) (τ : St) : Prop := ∀ σ, @Wq _ (some (tidy N (E.D (firstId b)) σ)) ⟨fun σ => @Fin σ ⟨τ, True⟩⟩ → @Wq _ (runCode E call N n (.loop b) σ) K
theorem to_loop (h : Lp E call N n b K τ) (h0 : @Wq _ (some (tidy N (E.D (firstId b)) σ)) ⟨fun σ => @Fin σ ⟨τ, True⟩⟩) : @Wq _ (runCode E call N n (.loop b) σ) K := h σ h0
end
def delS (r : Option TDelta) : List CV := match r with
  | some d => [.ow false 2 (d.Attrs.map TAttr.pv), .ow false 1 (d.Gone.map spv), .ow false 5 (d.Fresh.map TEntry.pv), .sh false (.b true)]
  | none => [.ow false 2 [], .ow false 1 [], .ow false 5 [], .sh false (.b false)]
/-- A test of a round: another one is wanted, there are few, nothing is wrong. -/
theorem stop_at {α : Type} {g : RSt → α × RSt} {s : RSt} {c M : Nat} (hM : min c 201 = M) :
    let R := repB g M s
    (R.1.length < c → R.1.length ≤ 200 → R.2.2 = true) := by
  intro R q1 q2
  have hlen := repB_len (f := g) (k := M) (s := s)
  cases e : R.2.2 with
  | true => rfl
  | false =>
    have := hlen.2 e
    have h2 : R.1.length = M := this
    omega
set_option maxHeartbeats 8000000 in
theorem getDeltaS_ok (n : Nat) (hn : Big + 12 ≤ n) {b : List UInt8} (hb : b.length ≤ 1048576) : pcall env n 14 [.c .one [.sh true (.s 1 ((b).map bpv))]] [] = some ⟨tupD (delS (getDI b)), []⟩ := by
  refine walk (fn := Tryd.f14) (d := 11) hn rfl rfl rfl (Nat.le_of_ble_eq_true rfl) fun m hd => ?_
  unfold Tryd.f14
  by_cases h4 : 4 ≤ b.length
  case neg =>
    have w1 : IntKind.i64.wrap ((b.length : Int) - 4) = (b.length : Int) - 4 := wrap_in (by omega) (by omega)
    have h0 : ((b.length : Int) - 4 < 0) = True := by simp only [eq_iff_iff, iff_true]; omega
    rw [getDI_no (.inl (by omega))]
    simp only [go_sem, Nat.reduceLT, Nat.reduceAdd, Nat.reduceSub, Nat.reduceEqDiff, Nat.reduceLeDiff, Int.reduceEq, Int.reduceBEq, Int.reduceBNe, Int.reduceNeg, UInt8.reduceToNat, Nat.reduceBEq, w1, h0, tupD, delS]
  have w1 : IntKind.i64.wrap ((b.length : Int) - 4) = ((b.length - 4 : Nat) : Int) := by rw [wrap_in (by omega) (by omega)]; omega
  have h0 : (((b.length - 4 : Nat) : Int) < 0) = False := by simp
  by_cases h2 : b.length ≤ 20000
  case neg =>
    have h3 : ((b.length : Int) > 20000) = True := by simp only [eq_iff_iff, iff_true]; omega
    rw [getDI_no (.inr (by omega))]
    simp only [go_sem, Nat.reduceLT, Nat.reduceAdd, Nat.reduceSub, Nat.reduceEqDiff, Nat.reduceLeDiff, Int.reduceEq, Int.reduceBEq, Int.reduceBNe, Int.reduceNeg, UInt8.reduceToNat, Nat.reduceBEq, w1, h0, h3, tupD, delS]
  have h3 : ((b.length : Int) > 20000) = False := by simp only [eq_iff_iff, iff_false]; omega
  rw [getD_eq h4 h2]
  obtain ⟨N, hN⟩ : ∃ N, b.length - 4 = N := ⟨_, rfl⟩
  have hNl : N ≤ b.length := by omega
  have hxl : (b.take N).length = N := by rw [List.length_take]; omega
  obtain ⟨D, hD⟩ : ∃ D, b.drop N = D := ⟨_, rfl⟩
  have hDl : D.length = 4 := by rw [← hD, List.length_drop]; omega
  rw [hN] at w1 h0 ⊢
  rw [hD]
  simp only [go_sem, Nat.reduceLT, Nat.reduceAdd, Nat.reduceSub, Nat.reduceEqDiff, Nat.reduceLeDiff, Int.reduceEq, Int.reduceBEq, Int.reduceBNe, Int.reduceNeg, UInt8.reduceToNat, Nat.reduceBEq, w1, h0, h3]
  refine wq_count 4 (fun j => slots 144 [(0, .c .one [.sh true (.s 1 ((b).map bpv))]), (2, .c .box [.ow false 2 [], .ow false 1 [], .ow false 5 []]), (4, .c .one [.sh false (.i .i64 (N : Nat))]), (5, .c .one [.sh false (.i .i64 ((unL (D.take j) : Nat) : Int))]), (6, .c .one [.sh false (.i .i64 ((N + j : Nat) : Int))])]) (fun _ => True) (hd (Nat.zero_le _)) (by decide) ?_ (fun j hj h1 hw _ => ?_) (fun _ => ?_)
  · simp only [go_sem, Nat.reduceLT, Nat.reduceAdd, Nat.reduceSub, Nat.reduceEqDiff, Nat.reduceLeDiff, Int.reduceEq, Int.reduceBEq, Int.reduceBNe, Int.reduceNeg, UInt8.reduceToNat, Nat.reduceBEq]; exact fin' rfl
  · have hxj : D[j]? = some D[j] := List.getElem?_eq_getElem (by omega)
    generalize D[j] = y at hxj
    have hby : b[N + j]? = some y := by rw [← hD, List.getElem?_drop] at hxj; exact hxj
    have g1 : (((N + j : Nat) : Int) < (b.length : Int)) = True := by simp only [eq_iff_iff, iff_true]; omega
    have hv : unL (D.take j) < 16777216 := unL_lt3 _ (by rw [List.length_take]; omega)
    have hy := y.toNat_lt
    have e1 : shiftOp .shl .i64 (unL (D.take j) : Int) 8 = some (.i .i64 ((unL (D.take j) * 256 : Nat) : Int)) := shl64 (s := 8) (by decide) (by omega)
    have e2 := or8 hv (y := y.toNat) (by omega)
    have w3 : IntKind.i64.wrap (y.toNat : Int) = y.toNat := wrap_in (by omega) (by omega)
    have w4 : IntKind.i64.wrap (((N + j : Nat) : Int) + 1) = ((N + (j + 1) : Nat) : Int) := by rw [wrap_in (by omega) (by omega)]; omega
    rw [← unL_take hxj] at e2
    simp only [go_sem, Nat.reduceLT, Nat.reduceAdd, Nat.reduceSub, Nat.reduceEqDiff, Nat.reduceLeDiff, Int.reduceEq, Int.reduceBEq, Int.reduceBNe, Int.reduceNeg, UInt8.reduceToNat, Nat.reduceBEq, g1, hby, bpv, w3, e1, e2, w4]
    exact fin' rfl
  · have g1 : (((N + 4 : Nat) : Int) < (b.length : Int)) = False := by simp only [eq_iff_iff, iff_false]; omega
    have e0 : D.take 4 = D := List.take_of_length_le (by omega)
    rw [e0]
    have g2 : ((N : Int) ≤ (b.length : Int)) = True := by simp only [eq_iff_iff, iff_true]; omega
    have ex : (b.map bpv).take N = (b.take N).map bpv := by rw [← List.map_take]
    have c5 := crcS_ok m (hd (by decide)) (b.take N) (by omega)
    generalize b.take N = x at hxl ex c5 ⊢
    have hxb : x.length ≤ 1048576 := by omega
    have c1 := numS_ok m (hd (by decide)) (b := x) (by omega) (s := (0, false)) (Nat.zero_le _) true
    have l1 := sd_N.le (0, false) (Nat.zero_le _) (x := x)
    have hT := fun (w : RSt) (hw : w.1 ≤ x.length) => textS_ok m (hd (by decide)) (by omega) hw true
    have hN' := fun (w : RSt) (hw : w.1 ≤ x.length) => numS_ok m (hd (by decide)) (by omega) hw true
    have hA' := fun (w : RSt) (hw : w.1 ≤ x.length) => l24Attrs_ok m (hd (by decide)) hxb hw true
    have hE' := fun (w : RSt) (hw : w.1 ≤ x.length) => l24Entry_ok m (hd (by decide)) hxb hw true
    have hbx : x.length ≤ Bd := by have hb : Bd = 1048576 := rfl; omega
    have c7 := fun (t : RSt) => deltaSpec_ok m (hd (by decide)) (sDel x t).1 (sDel_ok hbx t)
    have hG : getDS x D = if okS' x ((sN x (0, false)).2.1, !decide ((sN x (0, false)).1 = 7) || !decide (unL D = crcN x)) = true then some (sDel x ((sN x (0, false)).2.1, !decide ((sN x (0, false)).1 = 7) || !decide (unL D = crcN x))).1 else none := rfl
    generalize getDS x D = G at hG ⊢
    rcases hA : sN x (0, false) with ⟨v1, a1, o1⟩
    simp only [hA] at c1 l1 hG
    have e7 : ((v1 : Int) != 7) = !decide (v1 = 7) := neN v1 7
    have e8 := neN (unL D) (crcN x)
    obtain ⟨bad, hbad⟩ : ∃ z, (!decide (v1 = 7) || !decide (unL D = crcN x)) = z := ⟨_, rfl⟩
    rw [hbad] at hG
    have c2 := hA' (a1, bad) l1
    have l2 := sA_le (s := (a1, bad)) l1
    have hD0 : sDel x (a1, bad) = (⟨(sA x (a1, bad)).1, (sG x (sA x (a1, bad)).2).2.1, (sF x (sG x (sA x (a1, bad)).2).2.2).2.1⟩, ((sG x (sA x (a1, bad)).2).1, (sF x (sG x (sA x (a1, bad)).2).2.2).1), (sF x (sG x (sA x (a1, bad)).2).2.2).2.2) := rfl
    have c8 := c7 (a1, bad)
    unfold okS' at hG
    rw [hD0] at c8 hG
    simp only at c8 hG
    rcases hB : sA x (a1, bad) with ⟨la, s2⟩
    simp only [hB] at c2 l2 c8 hG
    have c3 := hN' s2 l2
    have l3 := sd_N.le s2 l2
    have hGd : sG x s2 = ((sN x s2).1, repB (sS x) (min (sN x s2).1 201) (sN x s2).2) := rfl
    obtain ⟨M1, hM1⟩ : ∃ M, min (sN x s2).1 201 = M := ⟨_, rfl⟩
    rw [hM1] at hGd
    have hv1 := sN_bd (x := x) s2
    rcases hC : sN x s2 with ⟨k1, s3⟩
    simp only [hC] at c3 l3 hGd hM1 hv1
    have hr1 := repB_le (x := x) sd_S l3
    have hst1 := stop_at (g := sS x) (s := s3) hM1
    have hL1 := repB_len (f := sS x) (k := M1) (s := s3)
    simp only [rdS, go_sem] at c1 c2 c3
    have hz : (decide (v1 = 7) = false ∧ true = bad) ∨ (decide (v1 = 7) = true ∧ decide (unL D = crcN x) = !bad) := by
      rw [← hbad]
      cases decide (v1 = 7) <;> cases decide (unL D = crcN x) <;> simp
    clear hbad hD0 c7 hA hB
    apply join
    · intro key
      rcases hz with ⟨z1, rfl⟩ | ⟨z1, z2⟩
      all_goals
        simp only [go_sem, Nat.reduceLT, Nat.reduceAdd, Nat.reduceSub, Nat.reduceEqDiff, Nat.reduceLeDiff, Int.reduceEq, Int.reduceBEq, Int.reduceBNe, Int.reduceNeg, UInt8.reduceToNat, Nat.reduceBEq, g1, g2, ex, c1, c2, c3, c5, e7, e8, z1, Bool.not_not, Bool.not_true, Bool.not_false]
        try simp only [go_sem, Nat.reduceLT, Nat.reduceAdd, Nat.reduceSub, Nat.reduceEqDiff, Nat.reduceLeDiff, Int.reduceEq, Int.reduceBEq, Int.reduceBNe, Int.reduceNeg, UInt8.reduceToNat, Nat.reduceBEq, z2, c2, c3, Bool.not_not]
        refine to_loop (τ := slots 144 [(2, .c .box [.ow false 2 [], .ow false 1 [], .ow false 5 []]), (4, .c .one [.sh false (.i .i64 (N : Nat))]), (7, .bp 43 0), (8, .c .box [.ow false 2 (la.map TAttr.pv), .ow false 1 [], .ow false 5 []]), (9, .c .one [.sh false (.i .i64 ((k1 : Nat)))]), (10, .c .one [.sh false (.i .i64 ((0 : Nat) : Int))]), (43, .c .box (rdS true x s3))]) ?_ ?_
        · exact key
        · simp only [go_sem, Nat.reduceLT, Nat.reduceAdd, Nat.reduceSub, Nat.reduceEqDiff, Nat.reduceLeDiff, Int.reduceEq, Int.reduceBEq, Int.reduceBNe, Int.reduceNeg, UInt8.reduceToNat, Nat.reduceBEq]; exact fin' rfl
    intro σ h0
    refine wq_count (repB (sS x) M1 s3).1.length (fun j => slots 144 [(2, .c .box [.ow false 2 [], .ow false 1 [], .ow false 5 []]), (4, .c .one [.sh false (.i .i64 (N : Nat))]), (7, .bp 43 0), (8, .c .box [.ow false 2 (la.map TAttr.pv), .ow false 1 ((repB (sS x) j s3).1.map spv), .ow false 5 []]), (9, .c .one [.sh false (.i .i64 ((k1 : Nat)))]), (10, .c .one [.sh false (.i .i64 (j : Nat))]), (43, .c .box (rdS true x (repB (sS x) j s3).2))]) (fun _ => True) (hd (Nat.zero_le _)) (by omega) h0 (fun j hj h6 hw _ => ?_) (fun _ => ?_)
    · obtain ⟨hbd, hlen, hjM⟩ := repB_at hj
      have g2 : ((j : Int) < (k1 : Int)) = True := by simp only [eq_iff_iff, iff_true]; omega
      have g3 : ((j : Int) ≤ 200) = True := by simp only [eq_iff_iff, iff_true]; omega
      have hj0 := hr1 j
      have hlim : LIM = 70368744177664 := rfl
      rw [repB_s hbd]
      generalize repB (sS x) j s3 = R at hj0 hlen hbd ⊢
      obtain ⟨L, p, bd⟩ := R
      simp only at hj0 hlen hbd
      subst hbd
      have g1 : (L.length + 1) * 16 ≤ LIM := by omega
      have t1 := hT (p, false) hj0
      simp only [sS]
      rcases hB : sT x (p, false) with ⟨v2, w2⟩
      simp only [hB] at t1
      simp only [rdS, go_sem] at t1
      simp only [rdS]
      simp only [go_sem, Nat.reduceLT, Nat.reduceAdd, Nat.reduceSub, Nat.reduceEqDiff, Nat.reduceLeDiff, Int.reduceEq, Int.reduceBEq, Int.reduceBNe, Int.reduceNeg, UInt8.reduceToNat, Nat.reduceBEq, g2, g3, hw, t1, g1, Bool.and_self]
      refine wq_all (o := [0, 1, 2, 3, 4, 5, 6, 7]) (os := ordA) (by kernel_rfl) ?_
      simp only [go_sem, Nat.reduceLT, Nat.reduceAdd, Nat.reduceSub, Nat.reduceEqDiff, Nat.reduceLeDiff, Int.reduceEq, Int.reduceBEq, Int.reduceBNe, Int.reduceNeg, UInt8.reduceToNat, Nat.reduceBEq, ordA, g2, g3, hw, t1, g1, Bool.and_self]
      exact fin' (by first | rfl | (simp only [rdS, sS, hB, List.map_append]; rfl) | skip)
    rw [repB_stop]
    have hr1 := hr1 M1
    generalize repB (sS x) M1 s3 = R at hr1 hst1 hL1 hGd ⊢
    obtain ⟨L1, p1, bd1⟩ := R
    simp only at hr1 hst1 hL1
    rw [hGd] at hG c8
    simp only at hG c8
    have c4 := hN' (p1, bd1) hr1
    have l4 := sd_N.le (p1, bd1) hr1 (x := x)
    have hFd : sF x (p1, bd1) = ((sN x (p1, bd1)).1, repB (sE x) (min (sN x (p1, bd1)).1 201) (sN x (p1, bd1)).2) := rfl
    obtain ⟨M2, hM2⟩ : ∃ M, min (sN x (p1, bd1)).1 201 = M := ⟨_, rfl⟩
    rw [hM2] at hFd
    have hv2 := sN_bd (x := x) (p1, bd1)
    rcases hC : sN x (p1, bd1) with ⟨k2, s5⟩
    simp only [hC] at c4 l4 hFd hM2 hv2
    rw [hFd] at hG c8
    simp only at hG c8
    have hr2 := fun j => (repB_up sd_E l4 (k := j)).1
    have hst2 := stop_at (g := sE x) (s := s5) hM2
    have hL2 := repB_len (f := sE x) (k := M2) (s := s5)
    simp only [rdS, go_sem] at c4
    have hx1 : (((L1.length : Int) < (k1 : Int)) = True ∧ ((L1.length : Int) ≤ 200) = True ∧ true = bd1) ∨ (((L1.length : Int) < (k1 : Int)) = True ∧ ((L1.length : Int) ≤ 200) = False) ∨ ((L1.length : Int) < (k1 : Int)) = False := by
      by_cases q1 : L1.length < k1
      · by_cases q2 : L1.length ≤ 200
        · exact .inl ⟨by simp only [eq_iff_iff, iff_true]; omega, by simp only [eq_iff_iff, iff_true]; omega, (hst1 q1 q2).symm⟩
        · exact .inr (.inl ⟨by simp only [eq_iff_iff, iff_true]; omega, by simp only [eq_iff_iff, iff_false]; omega⟩)
      · exact .inr (.inr (by simp only [eq_iff_iff, iff_false]; omega))
    apply join
    · intro key
      rcases hx1 with ⟨q1, q2, rfl⟩ | ⟨q1, q2⟩ | q1
      all_goals
        simp only [rdS]
        simp only [go_sem, Nat.reduceLT, Nat.reduceAdd, Nat.reduceSub, Nat.reduceEqDiff, Nat.reduceLeDiff, Int.reduceEq, Int.reduceBEq, Int.reduceBNe, Int.reduceNeg, UInt8.reduceToNat, Nat.reduceBEq, q1, c4]
        try simp only [go_sem, Nat.reduceLT, Nat.reduceAdd, Nat.reduceSub, Nat.reduceEqDiff, Nat.reduceLeDiff, Int.reduceEq, Int.reduceBEq, Int.reduceBNe, Int.reduceNeg, UInt8.reduceToNat, Nat.reduceBEq, q2, c4]
        refine to_loop (τ := slots 144 [(2, .c .box [.ow false 2 [], .ow false 1 [], .ow false 5 []]), (4, .c .one [.sh false (.i .i64 (N : Nat))]), (7, .bp 43 0), (8, .c .box [.ow false 2 (la.map TAttr.pv), .ow false 1 (L1.map spv), .ow false 5 []]), (9, .c .one [.sh false (.i .i64 ((k1 : Nat)))]), (11, .c .one [.sh false (.i .i64 ((k2 : Nat)))]), (12, .c .one [.sh false (.i .i64 ((0 : Nat) : Int))]), (43, .c .box (rdS true x s5))]) ?_ ?_
        · exact key
        · simp only [go_sem, Nat.reduceLT, Nat.reduceAdd, Nat.reduceSub, Nat.reduceEqDiff, Nat.reduceLeDiff, Int.reduceEq, Int.reduceBEq, Int.reduceBNe, Int.reduceNeg, UInt8.reduceToNat, Nat.reduceBEq]; exact fin' rfl
    intro σ h0
    refine wq_count (repB (sE x) M2 s5).1.length (fun j => slots 144 [(2, .c .box [.ow false 2 [], .ow false 1 [], .ow false 5 []]), (4, .c .one [.sh false (.i .i64 (N : Nat))]), (7, .bp 43 0), (8, .c .box [.ow false 2 (la.map TAttr.pv), .ow false 1 (L1.map spv), .ow false 5 ((repB (sE x) j s5).1.map TEntry.pv)]), (9, .c .one [.sh false (.i .i64 ((k1 : Nat)))]), (11, .c .one [.sh false (.i .i64 ((k2 : Nat)))]), (12, .c .one [.sh false (.i .i64 (j : Nat))]), (43, .c .box (rdS true x (repB (sE x) j s5).2))]) (fun _ => True) (hd (Nat.zero_le _)) (by omega) h0 (fun j hj h6 hw _ => ?_) (fun _ => ?_)
    · obtain ⟨hbd, hlen, hjM⟩ := repB_at hj
      have g2 : ((j : Int) < (k2 : Int)) = True := by simp only [eq_iff_iff, iff_true]; omega
      have g3 : ((j : Int) ≤ 200) = True := by simp only [eq_iff_iff, iff_true]; omega
      have hj0 := hr2 j
      have hlim : LIM = 70368744177664 := rfl
      rw [repB_s hbd]
      generalize repB (sE x) j s5 = R at hj0 hlen hbd ⊢
      obtain ⟨L, p, bd⟩ := R
      simp only at hj0 hlen hbd
      subst hbd
      have g1 : (L.length + 1) * 88 ≤ LIM := by omega
      have t1 := hE' (p, false) hj0
      rcases hB : sE x (p, false) with ⟨v2, w2⟩
      simp only [hB] at t1
      simp only [rdS, go_sem] at t1
      simp only [rdS]
      simp only [go_sem, Nat.reduceLT, Nat.reduceAdd, Nat.reduceSub, Nat.reduceEqDiff, Nat.reduceLeDiff, Int.reduceEq, Int.reduceBEq, Int.reduceBNe, Int.reduceNeg, UInt8.reduceToNat, Nat.reduceBEq, g2, g3, hw, t1, g1, Bool.and_self]
      refine wq_all (o := [0, 1, 2, 3, 4, 5, 6, 7]) (os := ordA) (by kernel_rfl) ?_
      simp only [go_sem, Nat.reduceLT, Nat.reduceAdd, Nat.reduceSub, Nat.reduceEqDiff, Nat.reduceLeDiff, Int.reduceEq, Int.reduceBEq, Int.reduceBNe, Int.reduceNeg, UInt8.reduceToNat, Nat.reduceBEq, ordA, g2, g3, hw, t1, g1, Bool.and_self]
      exact fin' (by first | rfl | (simp only [rdS, sE, hB, List.map_append]; rfl) | skip)
    rw [repB_stop]
    have hr2 := hr2 M2
    generalize repB (sE x) M2 s5 = R at hr2 hst2 hL2 hFd hG c8 ⊢
    obtain ⟨L2, p2, bd2⟩ := R
    simp only at hr2 hst2 hL2 hG c8
    have hx2 : (((L2.length : Int) < (k2 : Int)) = True ∧ ((L2.length : Int) ≤ 200) = True ∧ true = bd2) ∨ (((L2.length : Int) < (k2 : Int)) = True ∧ ((L2.length : Int) ≤ 200) = False) ∨ ((L2.length : Int) < (k2 : Int)) = False := by
      by_cases q1 : L2.length < k2
      · by_cases q2 : L2.length ≤ 200
        · exact .inl ⟨by simp only [eq_iff_iff, iff_true]; omega, by simp only [eq_iff_iff, iff_true]; omega, (hst2 q1 q2).symm⟩
        · exact .inr (.inl ⟨by simp only [eq_iff_iff, iff_true]; omega, by simp only [eq_iff_iff, iff_false]; omega⟩)
      · exact .inr (.inr (by simp only [eq_iff_iff, iff_false]; omega))
    have n1 := neN p2 N
    have n2 := neN k1 L1.length
    have n3 := neN k2 L2.length
    rw [hxl] at hG
    rw [hG]
    simp only [go_sem] at c8
    have hx3 : bd2 = true ∨ (bd2 = false ∧ decide (p2 = N) = false) ∨ (bd2 = false ∧ decide (p2 = N) = true ∧ decide (k1 = L1.length) = false) ∨ (bd2 = false ∧ decide (p2 = N) = true ∧ decide (k1 = L1.length) = true ∧ decide (k2 = L2.length) = false) ∨ (bd2 = false ∧ decide (p2 = N) = true ∧ decide (k1 = L1.length) = true ∧ decide (k2 = L2.length) = true ∧ deltaB ⟨la, L1, L2⟩ = false) ∨ (bd2 = false ∧ decide (p2 = N) = true ∧ decide (k1 = L1.length) = true ∧ decide (k2 = L2.length) = true ∧ deltaB ⟨la, L1, L2⟩ = true) := by
      cases bd2 <;> cases decide (p2 = N) <;> cases decide (k1 = L1.length) <;> cases decide (k2 = L2.length) <;> cases deltaB ⟨la, L1, L2⟩ <;> simp
    clear hst1 hst2 hL1 hL2 hG c1 c2 c3 c4 c5 h0
    rcases hx2 with ⟨q1, q2, rfl⟩ | ⟨q1, q2⟩ | q1
    all_goals
      rcases hx3 with z1 | ⟨z1, z2⟩ | ⟨z1, z2, z3⟩ | ⟨z1, z2, z3, z4⟩ | ⟨z1, z2, z3, z4, z5⟩ | ⟨z1, z2, z3, z4, z5⟩
    all_goals
      first
      | cases z1; done
      | skip
    all_goals
      try subst z1
      simp only [rdS]
      simp only [go_sem, Nat.reduceLT, Nat.reduceAdd, Nat.reduceSub, Nat.reduceEqDiff, Nat.reduceLeDiff, Int.reduceEq, Int.reduceBEq, Int.reduceBNe, Int.reduceNeg, UInt8.reduceToNat, Nat.reduceBEq, q1, c8, n1, n2, n3]
      try simp only [go_sem, Nat.reduceLT, Nat.reduceAdd, Nat.reduceSub, Nat.reduceEqDiff, Nat.reduceLeDiff, Int.reduceEq, Int.reduceBEq, Int.reduceBNe, Int.reduceNeg, UInt8.reduceToNat, Nat.reduceBEq, q2, c8, n1, n2, n3]
      try simp only [go_sem, Nat.reduceLT, Nat.reduceAdd, Nat.reduceSub, Nat.reduceEqDiff, Nat.reduceLeDiff, Int.reduceEq, Int.reduceBEq, Int.reduceBNe, Int.reduceNeg, UInt8.reduceToNat, Nat.reduceBEq, z2, c8, n2, n3, Bool.not_true, Bool.not_false]
      try simp only [go_sem, Nat.reduceLT, Nat.reduceAdd, Nat.reduceSub, Nat.reduceEqDiff, Nat.reduceLeDiff, Int.reduceEq, Int.reduceBEq, Int.reduceBNe, Int.reduceNeg, UInt8.reduceToNat, Nat.reduceBEq, z3, c8, n3, Bool.not_true, Bool.not_false]
      try simp only [go_sem, Nat.reduceLT, Nat.reduceAdd, Nat.reduceSub, Nat.reduceEqDiff, Nat.reduceLeDiff, Int.reduceEq, Int.reduceBEq, Int.reduceBNe, Int.reduceNeg, UInt8.reduceToNat, Nat.reduceBEq, z4, c8, Bool.not_true, Bool.not_false]
      try simp only [go_sem, Nat.reduceLT, Nat.reduceAdd, Nat.reduceSub, Nat.reduceEqDiff, Nat.reduceLeDiff, Int.reduceEq, Int.reduceBEq, Int.reduceBNe, Int.reduceNeg, UInt8.reduceToNat, Nat.reduceBEq, z5, c8, Bool.not_true, Bool.not_false]
      try simp only [z2, z3, z4, z5, Bool.not_true, Bool.not_false, Bool.and_self, Bool.and_false, Bool.false_and, Bool.true_and, tupD, delS, if_true, if_false, Bool.false_eq_true]
      try rfl
end Go.Proofs.YtblelojdboefjaaDoor.R
