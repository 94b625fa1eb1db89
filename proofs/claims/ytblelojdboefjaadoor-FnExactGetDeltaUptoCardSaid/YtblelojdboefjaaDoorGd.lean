/- The other program's reader: attributes, an entry. -/
import Derived.Test.YtblelojdboefjaaDoorGa
set_option maxRecDepth 100000
set_option linter.unusedVariables false
set_option linter.unusedSimpArgs false
namespace Go.Proofs.YtblelojdboefjaaDoor.R
open Go

section
variable {α : Type} {g : RSt → α × RSt} {s : RSt}
theorem repB_bad2 : ∀ {j m : Nat}, (repB g j s).2.2 = true → j ≤ m → repB g m s = repB g j s
  | j, 0, h, hm => by obtain rfl : j = 0 := by omega
                      rfl
  | j, m + 1, h, hm => by
    by_cases e : j = m + 1
    · subst e; rfl
    · have ih := repB_bad2 (m := m) h (by omega)
      simp only [repB]
      rw [ih, if_pos h]
theorem repB_at {j m : Nat} (h : j < (repB g m s).1.length) : (repB g j s).2.2 = false ∧ (repB g j s).1.length = j ∧ j < m := by
  have hm := (repB_len (f := g) (k := m) (s := s)).1
  have hj := (repB_len (f := g) (k := j) (s := s))
  cases e : (repB g j s).2.2 with
  | false => exact ⟨rfl, hj.2 e, by have := hj.2 e; omega⟩
  | true =>
    rw [repB_bad2 e (by omega : j ≤ m)] at h
    have := hj.1
    omega
theorem repB_stop : ∀ {m : Nat}, repB g (repB g m s).1.length s = repB g m s
  | 0 => rfl
  | m + 1 => by
    by_cases e : (repB g m s).2.2 = true
    · have h1 : repB g (m + 1) s = repB g m s := repB_bad2 e (Nat.le_succ m)
      rw [h1]; exact repB_stop
    · have e' : (repB g m s).2.2 = false := by simpa using e
      have h2 : (repB g (m + 1) s).1.length = m + 1 := by
        simp only [repB, if_neg e, List.length_append, (repB_len (f := g) (k := m) (s := s)).2 e', List.length_cons, List.length_nil]
      rw [h2]
theorem repB_s {j : Nat} (h : (repB g j s).2.2 = false) : repB g (j + 1) s = ((repB g j s).1 ++ [(g (repB g j s).2).1], (g (repB g j s).2).2) := by
  simp only [repB]
  rw [if_neg (by rw [h]; decide)]
end
theorem repB_le {α : Type} {x : List UInt8} {g : RSt → α × RSt} (hg : RdS x g) {s : RSt} (hs : s.1 ≤ x.length) (k : Nat) : (repB g k s).2.1 ≤ x.length := (repB_up hg hs).1
set_option maxHeartbeats 1000000 in
theorem l24Attrs_ok (n : Nat) (hn : Big + 4 ≤ n) {b : List UInt8} (hb : b.length ≤ 1048576) {s : RSt} (h : s.1 ≤ b.length) (fl : Bool) : pcall env n 41 [.bp 0 0] [rdS fl b s] = some ⟨.c .one [.ow false 2 ((sA b s).1.map TAttr.pv)], [rdS fl b (sA b s).2]⟩ := by
  refine walk (fn := Tryd.f41) (d := 3) hn rfl rfl rfl (Nat.le_of_ble_eq_true rfl) fun m hd => ?_
  unfold Tryd.f41
  have e1 := numS_ok m (hd (by decide)) (by omega) h fl
  have h1 := sd_N.le s h (x := b)
  have hT := fun (w : RSt) (hw : w.1 ≤ b.length) => textS_ok m (hd (by decide)) (by omega) hw fl
  have hr := repB_le sd_A1 h1
  have hv : (sN b s).1 ≤ 1000000 := by
    unfold sN
    split
    · exact Nat.zero_le _
    · split
      · rename_i v q e; exact (getN_lt e).1
      · exact Nat.zero_le _
  obtain ⟨M, hM⟩ : ∃ M, min (sN b s).1 5 = M := ⟨_, rfl⟩
  simp only [sA, hM]
  rcases hA : sN b s with ⟨k, u⟩
  rw [hA] at e1 h1 hr hv hM
  simp only at h1 hr hv hM
  obtain ⟨a, o⟩ := s
  simp only [rdS, go_sem] at e1
  simp only [rdS]
  simp only [go_sem, Nat.reduceLT, Nat.reduceAdd, Nat.reduceSub, Nat.reduceEqDiff, Nat.reduceLeDiff, Int.reduceEq, Int.reduceBEq, Int.reduceBNe, Int.reduceNeg, UInt8.reduceToNat, Nat.reduceBEq, e1, Nat.zero_mul, Nat.zero_le, Bool.and_self]
  refine wq_count (repB (sA1 b) M u).1.length (fun j => slots 50 [(0, .bp 50 0), (3, .c .one [.ow false 2 ((repB (sA1 b) j u).1.map TAttr.pv)]), (4, .c .one [.sh false (.i .i64 ((k : Nat)))]), (5, .c .one [.sh false (.i .i64 (j : Nat))])] ++ [.c .box (rdS fl b (repB (sA1 b) j u).2)]) (fun _ => True) (hd (Nat.zero_le _)) (by have := (repB_len (f := sA1 b) (k := M) (s := u)).1; omega) ?_ (fun j hj h3 hw _ => ?_) (fun _ => ?_)
  · simp only [go_sem, Nat.reduceLT, Nat.reduceAdd, Nat.reduceSub, Nat.reduceEqDiff, Nat.reduceLeDiff, Int.reduceEq, Int.reduceBEq, Int.reduceBNe, Int.reduceNeg, UInt8.reduceToNat, Nat.reduceBEq]
    exact fin' rfl
  · obtain ⟨hbad, hlen, hjM⟩ := repB_at hj
    have g2 : ((j : Int) < (k : Int)) = True := by simp only [eq_iff_iff, iff_true]; omega
    have g3 : ((j : Int) ≤ 4) = True := by simp only [eq_iff_iff, iff_true]; omega
    have hj0 := hr j
    have hlim : LIM = 70368744177664 := rfl
    rw [repB_s hbad]
    generalize repB (sA1 b) j u = R at hj0 hlen hbad ⊢
    obtain ⟨L, p, bad⟩ := R
    simp only at hj0 hlen hbad
    subst hbad
    have g1 : (L.length + 1) * 32 ≤ LIM := by omega
    have t1 := hT (p, false) hj0
    have t2 := hT _ (sd_T.le (p, false) hj0)
    simp only [sA1, sS]
    rcases hB : sT b (p, false) with ⟨v1, w1⟩
    simp only [hB] at t1 t2
    rcases hC : sT b w1 with ⟨v2, w2⟩
    simp only [hC] at t2
    simp only [rdS, go_sem] at t1 t2
    simp only [rdS]
    simp only [go_sem, Nat.reduceLT, Nat.reduceAdd, Nat.reduceSub, Nat.reduceEqDiff, Nat.reduceLeDiff, Int.reduceEq, Int.reduceBEq, Int.reduceBNe, Int.reduceNeg, UInt8.reduceToNat, Nat.reduceBEq, g2, g3, hw, t1, t2, g1, Bool.and_self]
    exact fin' (by simp only [rdS, sA1, sS, hB, hC, List.map_append]; rfl)
  · rw [repB_stop]
    have hlen := repB_len (f := sA1 b) (k := M) (s := u)
    have hS : sA b (a, o) = ((repB (sA1 b) M u).1, ((repB (sA1 b) M u).2.1, (repB (sA1 b) M u).2.2 || !decide (k = (repB (sA1 b) M u).1.length))) := by simp only [sA, hA, hM]
    generalize repB (sA1 b) M u = R at hlen hS ⊢
    obtain ⟨L, p, bad⟩ := R
    simp only at hlen hS
    have eN := neN k L.length
    have hf : L.length < k → L.length ≤ 4 → bad = true := fun q1 q2 => by
      cases bad with
      | true => rfl
      | false => have := hlen.2 rfl; omega
    by_cases q1 : L.length < k
    · have g2 : ((L.length : Int) < (k : Int)) = True := by simp only [eq_iff_iff, iff_true]; omega
      by_cases q2 : L.length ≤ 4
      · have g3 : ((L.length : Int) ≤ 4) = True := by simp only [eq_iff_iff, iff_true]; omega
        have hbad := hf q1 q2
        subst hbad
        simp only [rdS]
        simp only [go_sem, Nat.reduceLT, Nat.reduceAdd, Nat.reduceSub, Nat.reduceEqDiff, Nat.reduceLeDiff, Int.reduceEq, Int.reduceBEq, Int.reduceBNe, Int.reduceNeg, UInt8.reduceToNat, Nat.reduceBEq, g2, g3, eN, Bool.and_self]
        rw [hS]
        rfl
      · have g3 : ((L.length : Int) ≤ 4) = False := by simp only [eq_iff_iff, iff_false]; omega
        simp only [rdS]
        cases bad
        all_goals
          simp only [go_sem, Nat.reduceLT, Nat.reduceAdd, Nat.reduceSub, Nat.reduceEqDiff, Nat.reduceLeDiff, Int.reduceEq, Int.reduceBEq, Int.reduceBNe, Int.reduceNeg, UInt8.reduceToNat, Nat.reduceBEq, g2, g3, eN, Bool.and_self]
          rw [hS]
          rfl
    · have g2 : ((L.length : Int) < (k : Int)) = False := by simp only [eq_iff_iff, iff_false]; omega
      simp only [rdS]
      cases bad
      all_goals
        simp only [go_sem, Nat.reduceLT, Nat.reduceAdd, Nat.reduceSub, Nat.reduceEqDiff, Nat.reduceLeDiff, Int.reduceEq, Int.reduceBEq, Int.reduceBNe, Int.reduceNeg, UInt8.reduceToNat, Nat.reduceBEq, g2, eN, Bool.and_self]
        rw [hS]
        rfl
set_option maxHeartbeats 1000000 in
theorem l24Entry_ok (n : Nat) (hn : Big + 5 ≤ n) {b : List UInt8} (hb : b.length ≤ 1048576) {s : RSt} (h : s.1 ≤ b.length) (fl : Bool) : pcall env n 43 [.bp 0 0] [rdS fl b s] = some ⟨.c .agg ((sE b s).1.ov.map ovC), [rdS fl b (sE b s).2]⟩ := by
  refine walk (fn := Tryd.f43) (d := 4) hn rfl rfl rfl (Nat.le_of_ble_eq_true rfl) fun m hd => ?_
  unfold Tryd.f43
  have e1 := textS_ok m (hd (by decide)) (by omega) h fl
  have h1 := sd_T.le s h
  have e2 := numS_ok m (hd (by decide)) (by omega) h1 fl
  have h2 := sd_N.le _ h1
  have e3 := textS_ok m (hd (by decide)) (by omega) h2 fl
  have h3 := sd_T.le _ h2
  have e4 := l24Attrs_ok m (hd (by decide)) hb h3 fl
  have h4 := sA_le h3
  have e5 := textS_ok m (hd (by decide)) (by omega) h4 fl
  obtain ⟨a, o⟩ := s
  rcases hA : sT b (a, o) with ⟨v1, w1⟩
  simp only [hA] at e1 e2 e3 e4 e5
  rcases hB : sN b w1 with ⟨v2, w2⟩
  simp only [hB] at e2 e3 e4 e5
  rcases hC : sT b w2 with ⟨v3, w3⟩
  simp only [hC] at e3 e4 e5
  rcases hD : sA b w3 with ⟨v4, w4⟩
  simp only [hD] at e4 e5
  rcases hE : sT b w4 with ⟨v5, w5⟩
  simp only [hE] at e5
  have hS : sE b (a, o) = (⟨⟨⟨v1⟩⟩, (v2 : Int), v3, v4, ⟨⟨v5⟩⟩⟩, w5) := by simp only [sE, sS, hA, hB, hC, hD, hE]
  rw [hS]
  simp only [rdS, go_sem] at e1 e2 e3 e4 e5
  simp only [rdS]
  simp only [go_sem, Nat.reduceLT, Nat.reduceAdd, Nat.reduceSub, Nat.reduceEqDiff, Nat.reduceLeDiff, Int.reduceEq, Int.reduceBEq, Int.reduceBNe, Int.reduceNeg, UInt8.reduceToNat, Nat.reduceBEq, e1, e2, e3, e4, e5, Bool.and_self]
  rfl
end Go.Proofs.YtblelojdboefjaaDoor.R
