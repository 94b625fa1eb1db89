/- What slices.DeleteFunc leaves: the numbers that are not below nothing. -/
import Derived.Test.YtblelojdboefjaaGreatNa
set_option maxRecDepth 100000
set_option linter.unusedVariables false
set_option linter.unusedSimpArgs false
namespace Go.Proofs.YtblelojdboefjaaGreat.R
open Go

/-- The numbers that are not below nothing. -/
def keepL (l : List Int) : List Int := l.filter fun x => !decide (x < 0)

theorem keep_take {l : List Int} {j : Nat} {x : Int} (hx : l[j]? = some x) : keepL (l.take (j + 1)) = keepL (l.take j) ++ (if x < 0 then [] else [x]) := by
  obtain ⟨hj, e⟩ := List.getElem?_eq_some_iff.1 hx
  rw [List.take_succ_eq_append_getElem hj, e]
  unfold keepL
  rw [List.filter_append]
  by_cases h : x < 0 <;> simp [h]
theorem keep_all {l : List Int} : ∀ {j : Nat}, j ≤ l.length → (∀ i, i < j → ∀ x, l[i]? = some x → ¬ x < 0) → keepL (l.take j) = l.take j
  | 0, _, _ => by simp [keepL]
  | j + 1, hj, h => by
    have hx : l[j]? = some l[j] := List.getElem?_eq_getElem (by omega)
    rw [keep_take hx, keep_all (by omega) fun i hi => h i (by omega), if_neg (h j (by omega) _ hx), List.take_succ_eq_append_getElem (by omega)]
theorem negAt_cases (l : List Int) : (negAt l = -1 ∧ keepL l = l) ∨ ∃ (i : Nat) (x : Int), l[i]? = some x ∧ x < 0 ∧ negAt l = (i : Nat) ∧ keepL (l.take i) = l.take i := by
  by_cases h : l.findIdx (fun x => decide (x < 0)) < l.length
  · right
    refine ⟨l.findIdx (fun x => decide (x < 0)), _, List.getElem?_eq_getElem h, by simpa using List.findIdx_getElem (w := h), by unfold negAt; rw [if_pos h], ?_⟩
    refine keep_all (by omega) fun i hi x hx => ?_
    have := List.not_of_lt_findIdx hi
    rw [(List.getElem?_eq_some_iff.1 hx).2] at this
    simpa using this
  · left
    refine ⟨by unfold negAt; rw [if_neg h], ?_⟩
    have := keep_all (l := l) (j := l.length) (Nat.le_refl _) fun i hi x hx hneg => h (List.findIdx_lt_length.2 ⟨x, List.mem_of_getElem? hx, by simpa using hneg⟩)
    simpa using this
theorem keep_len (l : List Int) : (keepL l).length ≤ l.length := List.length_filter_le _ _

theorem delNeg_ok (n : Nat) (hn : Big + 3 ≤ n) (d s o : Nat) (σ : St) (l : List Int) (hl : l.length ≤ 4398046511104) (hd : d < σ.length) (hp : plain (σ.getD d .undef) = true) (hc : cellAt σ s o = .ow false 1 (l.map ipv)) :
    icall env n 38 d σ [.c .one [.br s o [] 0 0 false 1 (l.map ipv)], .fn 40 []] = some (σ.set d (.c .one [.br s o [] 0 0 false 1 ((keepL l).map ipv)]), .c .one [.br s o [] 0 0 false 1 ((keepL l).map ipv)]) ∨
    ∃ R : List (List PV), l.length = R.length ∧ icall env n 38 d σ [.c .one [.br s o [] 0 0 false 1 (l.map ipv)], .fn 40 []] = some ((modS s o [] (setRows 1 R) false σ).set d (.c .one [.br s o [] 2 0 false 1 ((keepL l).map ipv)]), .c .one [.br s o [] 2 0 false 1 ((keepL l).map ipv)]) := by
  obtain ⟨m, rfl⟩ := ex_pred hn
  have hB : 4398046511104 < Big := by decide
  have hb : Bd = 1048576 := rfl
  have hx := indexNeg_ok m (deep hn (by decide)) l hl true
  simp only [go_sem] at hx
  suffices H : @Wq _ (icall env (m + 1) 38 d σ [.c .one [.br s o [] 0 0 false 1 (l.map ipv)], .fn 40 []]) ⟨fun r => r = (σ.set d (.c .one [.br s o [] 0 0 false 1 ((keepL l).map ipv)]), .c .one [.br s o [] 0 0 false 1 ((keepL l).map ipv)]) ∨
      ∃ R : List (List PV), l.length = R.length ∧ r = ((modS s o [] (setRows 1 R) false σ).set d (.c .one [.br s o [] 2 0 false 1 ((keepL l).map ipv)]), .c .one [.br s o [] 2 0 false 1 ((keepL l).map ipv)])⟩ by
    obtain ⟨r, h1, h2 | ⟨R, h2, h3⟩⟩ := H
    · exact .inl (by rw [h1, h2])
    · exact .inr ⟨R, h2, by rw [h1, h3]⟩
  refine wq_icall (fn := Tryz.f38) rfl rfl (Nat.le_of_ble_eq_true rfl) ?_
  unfold Tryz.f38
  have hce := fun x => isNeg_ok m (deep hn (by decide)) x
  simp only [go_sem] at hce
  simp only [go_sem, Nat.reduceLT, Nat.reduceAdd, Nat.reduceSub, Nat.reduceEqDiff, Nat.reduceLeDiff, Int.reduceEq, Int.reduceBEq, Int.reduceBNe, Int.reduceNeg, UInt8.reduceToNat, Nat.reduceBEq, hx, hc]
  refine bq_mk (fun h => ?_) (fun h => ?_)
  · simp only [go_sem, Nat.reduceLT, Nat.reduceAdd, Nat.reduceSub, Nat.reduceEqDiff, Nat.reduceLeDiff, Int.reduceEq, Int.reduceBEq, Int.reduceBNe, Int.reduceNeg, UInt8.reduceToNat, Nat.reduceBEq, hx, hc]
    refine wq_of (finishI_look (σ := σ) ⟨by simp [upSt], rfl⟩ hd hp (by decide) rfl (by rw [hc]; rfl)) ?_
    rcases negAt_cases l with ⟨_, e⟩ | ⟨i, x, hx1, hx2, e, _⟩
    · exact .inl (by rw [e])
    · rw [e] at h
      simp at h
  · rcases negAt_cases l with ⟨e, _⟩ | ⟨i0, x0, hx1, hx2, e, hk0⟩
    · rw [e] at h; exact absurd rfl h
    have hi0 := (List.getElem?_eq_some_iff.1 hx1).1
    rw [e] at hx
    simp only [go_sem, Nat.reduceLT, Nat.reduceAdd, Nat.reduceSub, Nat.reduceEqDiff, Nat.reduceLeDiff, Int.reduceEq, Int.reduceBEq, Int.reduceBNe, Int.reduceNeg, UInt8.reduceToNat, Nat.reduceBEq, hx, hc, e, wrap_succ hi0 (by omega)]
    refine wq_loop_at (fun k τ => ∃ (i j : Nat) (r : List Int) (σk : St), j ≤ l.length ∧ i < j ∧ k = l.length - j ∧ r.length = l.length ∧ r.take i = keepL (l.take j) ∧ (keepL (l.take j)).length = i ∧ r.drop j = l.drop j ∧ At s o 1 d σ σk (r.map ipv) ∧
      τ = slots 42 [(0, .c .one [.br (s + 42) o [] 0 0 false 1 (r.map ipv)]), (1, .fn 40 []), (5, .c .one [.sh false (.i .i64 (i : Nat))]), (6, .c .one [.sh false (.i .i64 (j : Nat))])] ++ upSt 42 σk) (l.length - (i0 + 1)) (by omega) ?_ ?_
    · simp only [go_sem, Nat.reduceLT, Nat.reduceAdd, Nat.reduceSub, Nat.reduceEqDiff, Nat.reduceLeDiff, Int.reduceEq, Int.reduceBEq, Int.reduceBNe, Int.reduceNeg, UInt8.reduceToNat, Nat.reduceBEq]
      refine ⟨i0, i0 + 1, l, σ, by omega, by omega, rfl, rfl, ?_, ?_, rfl, .refl hc hp, rfl⟩
      · rw [keep_take hx1, hk0, if_pos hx2, List.append_nil]
      · rw [keep_take hx1, hk0, if_pos hx2, List.append_nil, List.length_take]; omega
    · rintro k τ ⟨i, j, r, σk, hj, hij, rfl, hr, h1, h2, h3, hA, rfl⟩
      have hcell := hA.cell
      by_cases hlt : j < l.length
      · have hlt1 : ((j : Int) < (l.length : Int)) := by omega
        have hxl : l[j]? = some l[j] := List.getElem?_eq_getElem hlt
        have hxr : r[j]? = l[j]? := by
          have := congrArg (fun m => m[0]?) h3
          simpa [List.getElem?_drop] using this
        generalize l[j] = x at hxl
        rw [hxl] at hxr
        have hyr : r[i]? = some r[i] := List.getElem?_eq_getElem (by omega)
        generalize r[i] = y at hyr
        have hkt := keep_take hxl
        simp only [go_sem, Nat.reduceLT, Nat.reduceAdd, Nat.reduceSub, Nat.reduceEqDiff, Nat.reduceLeDiff, Int.reduceEq, Int.reduceBEq, Int.reduceBNe, Int.reduceNeg, UInt8.reduceToNat, Nat.reduceBEq, hlt1, hr, hcell, hxr, hyr, hce, wrap_succ hlt (by omega)]
        refine bq_mk (fun hn => ?_) (fun hn => ?_)
        · have hn' : ¬ x < 0 := by simpa using hn
          rw [if_neg hn'] at hkt
          simp only [go_sem, Nat.reduceLT, Nat.reduceAdd, Nat.reduceSub, Nat.reduceEqDiff, Nat.reduceLeDiff, Int.reduceEq, Int.reduceBEq, Int.reduceBNe, Int.reduceNeg, UInt8.reduceToNat, Nat.reduceBEq, hlt1, hr, hcell, hxr, hyr, hce, wrap_succ hlt (by omega), wrap_succ (show i < l.length by omega) (by omega)]
          have e1 : (r.map ipv).set i [.i .i64 x] = (r.set i x).map ipv := by rw [List.map_set]; rfl
          rw [e1]
          refine ⟨_, ?_, i + 1, j + 1, r.set i x, modS s o [] (setRows 1 ((r.set i x).map ipv)) false σk, hlt, by omega, rfl, by simpa using hr, ?_, ?_, ?_, hA.step (by simp), rfl⟩
          · omega
          · rw [hkt, ← h1, List.take_succ_eq_append_getElem (by simp; omega), List.take_set_of_le (Nat.le_refl _)]
            simp
          · rw [hkt]; simp [h2]
          · rw [List.drop_set, if_pos (by omega)]
            have := congrArg (List.drop 1) h3
            simpa using this
        · have hn' : x < 0 := by simpa using hn
          rw [if_pos hn', List.append_nil] at hkt
          simp only [go_sem, Nat.reduceLT, Nat.reduceAdd, Nat.reduceSub, Nat.reduceEqDiff, Nat.reduceLeDiff, Int.reduceEq, Int.reduceBEq, Int.reduceBNe, Int.reduceNeg, UInt8.reduceToNat, Nat.reduceBEq, hlt1, hr, hcell, hxr, hyr, hce, wrap_succ hlt (by omega)]
          refine ⟨_, ?_, i, j + 1, r, σk, hlt, by omega, rfl, hr, by rw [hkt]; exact h1, by rw [hkt]; exact h2, ?_, hA, rfl⟩
          · omega
          · have := congrArg (List.drop 1) h3
            simpa using this
      · have hlt1 : ¬ ((j : Int) < (l.length : Int)) := by omega
        obtain rfl : j = l.length := by omega
        rw [List.take_length] at h1 h2
        have hil : i < l.length := by omega
        have hle : ((i : Int) ≤ (l.length : Int)) := by omega
        have hz : ((r.map ipv).drop i).length = l.length - i := by simp [hr]
        have htk : (r.map ipv).take l.length = r.map ipv := List.take_of_length_le (by simp [hr])
        have h4 : i + (l.length - i) ≤ l.length := by omega
        have h5 : i + (l.length - i) = l.length := by omega
        have h6 : (r.map ipv).drop l.length = [] := List.drop_of_length_le (by simp [hr])
        have h7 : min i l.length = i := by omega
        simp only [go_sem, Nat.reduceLT, Nat.reduceAdd, Nat.reduceSub, Nat.reduceEqDiff, Nat.reduceLeDiff, Int.reduceEq, Int.reduceBEq, Int.reduceBNe, Int.reduceNeg, UInt8.reduceToNat, Nat.reduceBEq, hlt1, hr, hcell, hle, htk, hz]
        refine bq_neg (by omega) ?_
        simp only [go_sem, Nat.reduceLT, Nat.reduceAdd, Nat.reduceSub, Nat.reduceEqDiff, Nat.reduceLeDiff, Int.reduceEq, Int.reduceBEq, Int.reduceBNe, Int.reduceNeg, UInt8.reduceToNat, Nat.reduceBEq, hlt1, hr, hcell, hle, htk, hz, h4, h5, h6, List.length_take, List.length_drop, Nat.le_refl, h7]
        have e1 : (List.take i (List.map ipv r) ++ List.replicate (l.length - i) [PV.i IntKind.i64 0]).length = (r.map ipv).length := by simp [hr]; omega
        have hA2 := hA.step e1
        have e2 : (List.take i (List.map ipv r) ++ List.replicate (l.length - i) [PV.i IntKind.i64 0]).take i = (keepL l).map ipv := by
          rw [List.take_append_of_le_length (by simp [hr]; omega), List.take_take, Nat.min_self, ← List.map_take, h1]
        refine wq_of (finishI_look (σ := modS s o [] (setRows 1 (List.take i (List.map ipv r) ++ List.replicate (l.length - i) [PV.i IntKind.i64 0])) false σk) ⟨by simp, rfl⟩ (by rw [hA2.len]; exact hd) hA2.pl (by decide) rfl (by rw [hA2.cell]; rfl)) (.inr ⟨List.take i (List.map ipv r) ++ List.replicate (l.length - i) [PV.i IntKind.i64 0], by rw [e1, List.length_map, hr], by rw [e2, hA.to _ e1]⟩)
theorem delNeg_q {n : Nat} (hn : Big + 3 ≤ n) {d s o : Nat} {σ : St} {l : List Int} {K : Kont (St × SV)} (hl : l.length ≤ 4398046511104) (hd : d < σ.length) (hp : plain (σ.getD d .undef) = true) (hc : cellAt σ s o = .ow false 1 (l.map ipv))
    (h1 : K.run (σ.set d (.c .one [.br s o [] 0 0 false 1 ((keepL l).map ipv)]), .c .one [.br s o [] 0 0 false 1 ((keepL l).map ipv)]))
    (h2 : ∀ R : List (List PV), l.length = R.length → K.run ((modS s o [] (setRows 1 R) false σ).set d (.c .one [.br s o [] 2 0 false 1 ((keepL l).map ipv)]), .c .one [.br s o [] 2 0 false 1 ((keepL l).map ipv)])) :
    @Wq _ (icall env n 38 d σ [.c .one [.br s o [] 0 0 false 1 (l.map ipv)], .fn 40 []]) K := by
  rcases delNeg_ok n hn d s o σ l hl hd hp hc with h | ⟨R, h3, h⟩
  · exact wq_of h h1
  · exact wq_of h (h2 R h3)
end Go.Proofs.YtblelojdboefjaaGreat.R
