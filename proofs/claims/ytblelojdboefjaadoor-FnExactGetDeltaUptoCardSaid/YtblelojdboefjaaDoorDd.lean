/- A difference marked. -/
import Derived.Test.YtblelojdboefjaaDoorG
set_option maxRecDepth 100000
set_option linter.unusedVariables false
set_option linter.unusedSimpArgs false
namespace Go.Proofs.YtblelojdboefjaaDoor.R
open Go

def mDelta (x : TDelta) (k : Nat) : Nat := (mkL mEntry x.Fresh (mkL mS x.Gone (mkL mAttr x.Attrs k).2).2).2
set_option maxHeartbeats 4000000 in
theorem markDelta_ok (n : Nat) (hn : Big + 4 ≤ n) (d s : Nat) (σ : St) (x : TDelta) (hx : x.ok) (k : Nat) (hk : mDelta x k ≤ 4611686018427387904) (hd : d < σ.length) (hp : plain (σ.getD d .undef) = true)
    (hc0 : cellAt σ s 0 = .ow false 2 (x.Attrs.map TAttr.pv)) (hc1 : cellAt σ s 1 = .ow false 1 (x.Gone.map spv)) (hc2 : cellAt σ s 2 = .ow false 5 (x.Fresh.map TEntry.ov)) :
    icall env n 11 d σ [.c .agg [.br s 0 [] 0 0 false 2 (x.Attrs.map TAttr.pv), .br s 1 [] 0 0 false 1 (x.Gone.map spv), .br s 2 [] 0 0 false 5 (x.Fresh.map TEntry.ov)], .c .one [.sh false (.i .i64 (k : Nat))]]
      = some ((tu s 2 [] 5 (x.Fresh.map TEntry.ov) ((mkL mEntry x.Fresh (mkL mS x.Gone (mkL mAttr x.Attrs k).2).2).1.map TEntry.ov) (tu s 1 [] 1 (x.Gone.map spv) ((mkL mS x.Gone (mkL mAttr x.Attrs k).2).1.map spv) (tu s 0 [] 2 (x.Attrs.map TAttr.pv) ((mkL mAttr x.Attrs k).1.map TAttr.pv) σ))).set d (.c .one [.sh false (.i .i64 ((mDelta x k : Nat)))]), .c .one [.sh false (.i .i64 ((mDelta x k : Nat)))]) := by
  refine walkI (fn := Tryd.f11) (d0 := 3) hn rfl rfl (Nat.le_of_ble_eq_true rfl) fun m hd0 => ?_
  unfold Tryd.f11
  have hb : Bd = 1048576 := rfl
  unfold mDelta at hk ⊢
  obtain ⟨K1, hK1⟩ : ∃ K, (mkL mAttr x.Attrs k).2 = K := ⟨_, rfl⟩
  rw [hK1] at hk ⊢
  obtain ⟨K2, hK2⟩ : ∃ K, (mkL mS x.Gone K1).2 = K := ⟨_, rfl⟩
  rw [hK2] at hk ⊢
  obtain ⟨K3, hK3⟩ : ∃ K, (mkL mEntry x.Fresh K2).2 = K := ⟨_, rfl⟩
  rw [hK3] at hk ⊢
  have ge1 := mkL_ge mo_mAttr (l := x.Attrs) (k := k)
  have ge2 := mkL_ge mo_mS (l := x.Gone) (k := K1)
  have ge3 := mkL_ge mo_mEntry (l := x.Fresh) (k := K2)
  rw [hK1] at ge1
  rw [hK2] at ge2
  rw [hK3] at ge3
  simp only [go_sem, Nat.reduceLT, Nat.reduceAdd, Nat.reduceSub, Nat.reduceEqDiff, Nat.reduceLeDiff, Int.reduceEq, Int.reduceBEq, Int.reduceBNe, Int.reduceNeg, UInt8.reduceToNat, Nat.reduceBEq, hc0, hc1, hc2]
  refine wq_of (markAttrS_ok m (hd0 (by decide)) _ _ _ _ _ x.Attrs hx.Attrs.1 k hx.Attrs.2 (by rw [hK1]; omega) (by simp only [List.length_cons]; omega) rfl (by simp only [go_sem, Nat.reduceLT, Nat.reduceAdd, Nat.reduceSub, Nat.reduceEqDiff, Nat.reduceLeDiff, Int.reduceEq, Int.reduceBEq, Int.reduceBNe, Int.reduceNeg, UInt8.reduceToNat, Nat.reduceBEq, hc0, hc1, hc2])) ?_
  rcases Classical.em (x.Attrs = []) with hE0 | hE0
  · have u0 : ∀ s o q r τ, tu s o q 2 (x.Attrs.map TAttr.pv) r τ = τ := by rw [hE0]; intros; rfl
    simp only [u0]
    simp only [go_sem, Nat.reduceLT, Nat.reduceAdd, Nat.reduceSub, Nat.reduceEqDiff, Nat.reduceLeDiff, Int.reduceEq, Int.reduceBEq, Int.reduceBNe, Int.reduceNeg, UInt8.reduceToNat, Nat.reduceBEq, hc0, hc1, hc2, hK1]
    refine wq_of (markStringS_ok m (hd0 (by decide)) _ _ _ _ _ x.Gone hx.Gone.1 K1 hx.Gone.2 (by rw [hK2]; omega) (by simp only [List.length_cons]; omega) rfl (by simp only [go_sem, Nat.reduceLT, Nat.reduceAdd, Nat.reduceSub, Nat.reduceEqDiff, Nat.reduceLeDiff, Int.reduceEq, Int.reduceBEq, Int.reduceBNe, Int.reduceNeg, UInt8.reduceToNat, Nat.reduceBEq, hc0, hc1, hc2])) ?_
    rcases Classical.em (x.Gone = []) with hE1 | hE1
    · have u1 : ∀ s o q r τ, tu s o q 1 (x.Gone.map spv) r τ = τ := by rw [hE1]; intros; rfl
      simp only [u1]
      simp only [go_sem, Nat.reduceLT, Nat.reduceAdd, Nat.reduceSub, Nat.reduceEqDiff, Nat.reduceLeDiff, Int.reduceEq, Int.reduceBEq, Int.reduceBNe, Int.reduceNeg, UInt8.reduceToNat, Nat.reduceBEq, hc0, hc1, hc2, hK1, hK2]
      refine wq_of (markEntryS_ok m (hd0 (by decide)) _ _ _ _ _ x.Fresh hx.Fresh.1 K2 hx.Fresh.2 (by rw [hK3]; omega) (by simp only [List.length_cons]; omega) rfl (by simp only [go_sem, Nat.reduceLT, Nat.reduceAdd, Nat.reduceSub, Nat.reduceEqDiff, Nat.reduceLeDiff, Int.reduceEq, Int.reduceBEq, Int.reduceBNe, Int.reduceNeg, UInt8.reduceToNat, Nat.reduceBEq, hc0, hc1, hc2])) ?_
      rcases Classical.em (x.Fresh = []) with hE2 | hE2
      · have u2 : ∀ s o q r τ, tu s o q 5 (x.Fresh.map TEntry.ov) r τ = τ := by rw [hE2]; intros; rfl
        simp only [u2]
        simp only [go_sem, Nat.reduceLT, Nat.reduceAdd, Nat.reduceSub, Nat.reduceEqDiff, Nat.reduceLeDiff, Int.reduceEq, Int.reduceBEq, Int.reduceBNe, Int.reduceNeg, UInt8.reduceToNat, Nat.reduceBEq, hc0, hc1, hc2, hK1, hK2, hK3]
        refine wq_of (finishI_sh (σ := _) (τ := _) ⟨by simp, rfl⟩ (by simp only [go_sem, Nat.reduceLT, Nat.reduceAdd, Nat.reduceSub, Nat.reduceEqDiff, Nat.reduceLeDiff, Int.reduceEq, Int.reduceBEq, Int.reduceBNe, Int.reduceNeg, UInt8.reduceToNat, Nat.reduceBEq, len_modS, hd]) (by first | exact hp | exact plain_modS hp | exact plain_modS (plain_modS hp) | exact plain_modS (plain_modS (plain_modS hp))) (by decide) rfl) ?_
        show Eq _ _
        rw [u2, u1, u0]
        all_goals rfl
      · have u2 : ∀ s o q r τ, tu s o q 5 (x.Fresh.map TEntry.ov) r τ = modS s o q (setRows 5 r) false τ := fun s o q r τ => tu_ne (by simpa using hE2)
        simp only [u2]
        simp only [go_sem, Nat.reduceLT, Nat.reduceAdd, Nat.reduceSub, Nat.reduceEqDiff, Nat.reduceLeDiff, Int.reduceEq, Int.reduceBEq, Int.reduceBNe, Int.reduceNeg, UInt8.reduceToNat, Nat.reduceBEq, hc0, hc1, hc2, mkL_len, List.length_map, hK1, hK2, hK3]
        refine wq_of (finishI_sh (σ := _) (τ := _) ⟨by simp, rfl⟩ (by simp only [go_sem, Nat.reduceLT, Nat.reduceAdd, Nat.reduceSub, Nat.reduceEqDiff, Nat.reduceLeDiff, Int.reduceEq, Int.reduceBEq, Int.reduceBNe, Int.reduceNeg, UInt8.reduceToNat, Nat.reduceBEq, len_modS, hd]) (by first | exact hp | exact plain_modS hp | exact plain_modS (plain_modS hp) | exact plain_modS (plain_modS (plain_modS hp))) (by decide) rfl) ?_
        show Eq _ _
        rw [u2, u1, u0]
        all_goals rfl
    · have u1 : ∀ s o q r τ, tu s o q 1 (x.Gone.map spv) r τ = modS s o q (setRows 1 r) false τ := fun s o q r τ => tu_ne (by simpa using hE1)
      simp only [u1]
      simp only [go_sem, Nat.reduceLT, Nat.reduceAdd, Nat.reduceSub, Nat.reduceEqDiff, Nat.reduceLeDiff, Int.reduceEq, Int.reduceBEq, Int.reduceBNe, Int.reduceNeg, UInt8.reduceToNat, Nat.reduceBEq, hc0, hc1, hc2, mkL_len, List.length_map, hK1, hK2]
      refine wq_of (markEntryS_ok m (hd0 (by decide)) _ _ _ _ _ x.Fresh hx.Fresh.1 K2 hx.Fresh.2 (by rw [hK3]; omega) (by simp only [List.length_cons]; omega) rfl (by simp only [go_sem, Nat.reduceLT, Nat.reduceAdd, Nat.reduceSub, Nat.reduceEqDiff, Nat.reduceLeDiff, Int.reduceEq, Int.reduceBEq, Int.reduceBNe, Int.reduceNeg, UInt8.reduceToNat, Nat.reduceBEq, hc0, hc1, hc2])) ?_
      rcases Classical.em (x.Fresh = []) with hE2 | hE2
      · have u2 : ∀ s o q r τ, tu s o q 5 (x.Fresh.map TEntry.ov) r τ = τ := by rw [hE2]; intros; rfl
        simp only [u2]
        simp only [go_sem, Nat.reduceLT, Nat.reduceAdd, Nat.reduceSub, Nat.reduceEqDiff, Nat.reduceLeDiff, Int.reduceEq, Int.reduceBEq, Int.reduceBNe, Int.reduceNeg, UInt8.reduceToNat, Nat.reduceBEq, hc0, hc1, hc2, hK1, hK2, hK3]
        refine wq_of (finishI_sh (σ := _) (τ := _) ⟨by simp, rfl⟩ (by simp only [go_sem, Nat.reduceLT, Nat.reduceAdd, Nat.reduceSub, Nat.reduceEqDiff, Nat.reduceLeDiff, Int.reduceEq, Int.reduceBEq, Int.reduceBNe, Int.reduceNeg, UInt8.reduceToNat, Nat.reduceBEq, len_modS, hd]) (by first | exact hp | exact plain_modS hp | exact plain_modS (plain_modS hp) | exact plain_modS (plain_modS (plain_modS hp))) (by decide) rfl) ?_
        show Eq _ _
        rw [u2, u1, u0]
        all_goals rfl
      · have u2 : ∀ s o q r τ, tu s o q 5 (x.Fresh.map TEntry.ov) r τ = modS s o q (setRows 5 r) false τ := fun s o q r τ => tu_ne (by simpa using hE2)
        simp only [u2]
        simp only [go_sem, Nat.reduceLT, Nat.reduceAdd, Nat.reduceSub, Nat.reduceEqDiff, Nat.reduceLeDiff, Int.reduceEq, Int.reduceBEq, Int.reduceBNe, Int.reduceNeg, UInt8.reduceToNat, Nat.reduceBEq, hc0, hc1, hc2, mkL_len, List.length_map, hK1, hK2, hK3]
        refine wq_of (finishI_sh (σ := _) (τ := _) ⟨by simp, rfl⟩ (by simp only [go_sem, Nat.reduceLT, Nat.reduceAdd, Nat.reduceSub, Nat.reduceEqDiff, Nat.reduceLeDiff, Int.reduceEq, Int.reduceBEq, Int.reduceBNe, Int.reduceNeg, UInt8.reduceToNat, Nat.reduceBEq, len_modS, hd]) (by first | exact hp | exact plain_modS hp | exact plain_modS (plain_modS hp) | exact plain_modS (plain_modS (plain_modS hp))) (by decide) rfl) ?_
        show Eq _ _
        rw [u2, u1, u0]
        all_goals rfl
  · have u0 : ∀ s o q r τ, tu s o q 2 (x.Attrs.map TAttr.pv) r τ = modS s o q (setRows 2 r) false τ := fun s o q r τ => tu_ne (by simpa using hE0)
    simp only [u0]
    simp only [go_sem, Nat.reduceLT, Nat.reduceAdd, Nat.reduceSub, Nat.reduceEqDiff, Nat.reduceLeDiff, Int.reduceEq, Int.reduceBEq, Int.reduceBNe, Int.reduceNeg, UInt8.reduceToNat, Nat.reduceBEq, hc0, hc1, hc2, mkL_len, List.length_map, hK1]
    refine wq_of (markStringS_ok m (hd0 (by decide)) _ _ _ _ _ x.Gone hx.Gone.1 K1 hx.Gone.2 (by rw [hK2]; omega) (by simp only [List.length_cons]; omega) rfl (by simp only [go_sem, Nat.reduceLT, Nat.reduceAdd, Nat.reduceSub, Nat.reduceEqDiff, Nat.reduceLeDiff, Int.reduceEq, Int.reduceBEq, Int.reduceBNe, Int.reduceNeg, UInt8.reduceToNat, Nat.reduceBEq, hc0, hc1, hc2])) ?_
    rcases Classical.em (x.Gone = []) with hE1 | hE1
    · have u1 : ∀ s o q r τ, tu s o q 1 (x.Gone.map spv) r τ = τ := by rw [hE1]; intros; rfl
      simp only [u1]
      simp only [go_sem, Nat.reduceLT, Nat.reduceAdd, Nat.reduceSub, Nat.reduceEqDiff, Nat.reduceLeDiff, Int.reduceEq, Int.reduceBEq, Int.reduceBNe, Int.reduceNeg, UInt8.reduceToNat, Nat.reduceBEq, hc0, hc1, hc2, hK1, hK2]
      refine wq_of (markEntryS_ok m (hd0 (by decide)) _ _ _ _ _ x.Fresh hx.Fresh.1 K2 hx.Fresh.2 (by rw [hK3]; omega) (by simp only [List.length_cons]; omega) rfl (by simp only [go_sem, Nat.reduceLT, Nat.reduceAdd, Nat.reduceSub, Nat.reduceEqDiff, Nat.reduceLeDiff, Int.reduceEq, Int.reduceBEq, Int.reduceBNe, Int.reduceNeg, UInt8.reduceToNat, Nat.reduceBEq, hc0, hc1, hc2])) ?_
      rcases Classical.em (x.Fresh = []) with hE2 | hE2
      · have u2 : ∀ s o q r τ, tu s o q 5 (x.Fresh.map TEntry.ov) r τ = τ := by rw [hE2]; intros; rfl
        simp only [u2]
        simp only [go_sem, Nat.reduceLT, Nat.reduceAdd, Nat.reduceSub, Nat.reduceEqDiff, Nat.reduceLeDiff, Int.reduceEq, Int.reduceBEq, Int.reduceBNe, Int.reduceNeg, UInt8.reduceToNat, Nat.reduceBEq, hc0, hc1, hc2, hK1, hK2, hK3]
        refine wq_of (finishI_sh (σ := _) (τ := _) ⟨by simp, rfl⟩ (by simp only [go_sem, Nat.reduceLT, Nat.reduceAdd, Nat.reduceSub, Nat.reduceEqDiff, Nat.reduceLeDiff, Int.reduceEq, Int.reduceBEq, Int.reduceBNe, Int.reduceNeg, UInt8.reduceToNat, Nat.reduceBEq, len_modS, hd]) (by first | exact hp | exact plain_modS hp | exact plain_modS (plain_modS hp) | exact plain_modS (plain_modS (plain_modS hp))) (by decide) rfl) ?_
        show Eq _ _
        rw [u2, u1, u0]
        all_goals rfl
      · have u2 : ∀ s o q r τ, tu s o q 5 (x.Fresh.map TEntry.ov) r τ = modS s o q (setRows 5 r) false τ := fun s o q r τ => tu_ne (by simpa using hE2)
        simp only [u2]
        simp only [go_sem, Nat.reduceLT, Nat.reduceAdd, Nat.reduceSub, Nat.reduceEqDiff, Nat.reduceLeDiff, Int.reduceEq, Int.reduceBEq, Int.reduceBNe, Int.reduceNeg, UInt8.reduceToNat, Nat.reduceBEq, hc0, hc1, hc2, mkL_len, List.length_map, hK1, hK2, hK3]
        refine wq_of (finishI_sh (σ := _) (τ := _) ⟨by simp, rfl⟩ (by simp only [go_sem, Nat.reduceLT, Nat.reduceAdd, Nat.reduceSub, Nat.reduceEqDiff, Nat.reduceLeDiff, Int.reduceEq, Int.reduceBEq, Int.reduceBNe, Int.reduceNeg, UInt8.reduceToNat, Nat.reduceBEq, len_modS, hd]) (by first | exact hp | exact plain_modS hp | exact plain_modS (plain_modS hp) | exact plain_modS (plain_modS (plain_modS hp))) (by decide) rfl) ?_
        show Eq _ _
        rw [u2, u1, u0]
        all_goals rfl
    · have u1 : ∀ s o q r τ, tu s o q 1 (x.Gone.map spv) r τ = modS s o q (setRows 1 r) false τ := fun s o q r τ => tu_ne (by simpa using hE1)
      simp only [u1]
      simp only [go_sem, Nat.reduceLT, Nat.reduceAdd, Nat.reduceSub, Nat.reduceEqDiff, Nat.reduceLeDiff, Int.reduceEq, Int.reduceBEq, Int.reduceBNe, Int.reduceNeg, UInt8.reduceToNat, Nat.reduceBEq, hc0, hc1, hc2, mkL_len, List.length_map, hK1, hK2]
      refine wq_of (markEntryS_ok m (hd0 (by decide)) _ _ _ _ _ x.Fresh hx.Fresh.1 K2 hx.Fresh.2 (by rw [hK3]; omega) (by simp only [List.length_cons]; omega) rfl (by simp only [go_sem, Nat.reduceLT, Nat.reduceAdd, Nat.reduceSub, Nat.reduceEqDiff, Nat.reduceLeDiff, Int.reduceEq, Int.reduceBEq, Int.reduceBNe, Int.reduceNeg, UInt8.reduceToNat, Nat.reduceBEq, hc0, hc1, hc2])) ?_
      rcases Classical.em (x.Fresh = []) with hE2 | hE2
      · have u2 : ∀ s o q r τ, tu s o q 5 (x.Fresh.map TEntry.ov) r τ = τ := by rw [hE2]; intros; rfl
        simp only [u2]
        simp only [go_sem, Nat.reduceLT, Nat.reduceAdd, Nat.reduceSub, Nat.reduceEqDiff, Nat.reduceLeDiff, Int.reduceEq, Int.reduceBEq, Int.reduceBNe, Int.reduceNeg, UInt8.reduceToNat, Nat.reduceBEq, hc0, hc1, hc2, hK1, hK2, hK3]
        refine wq_of (finishI_sh (σ := _) (τ := _) ⟨by simp, rfl⟩ (by simp only [go_sem, Nat.reduceLT, Nat.reduceAdd, Nat.reduceSub, Nat.reduceEqDiff, Nat.reduceLeDiff, Int.reduceEq, Int.reduceBEq, Int.reduceBNe, Int.reduceNeg, UInt8.reduceToNat, Nat.reduceBEq, len_modS, hd]) (by first | exact hp | exact plain_modS hp | exact plain_modS (plain_modS hp) | exact plain_modS (plain_modS (plain_modS hp))) (by decide) rfl) ?_
        show Eq _ _
        rw [u2, u1, u0]
        all_goals rfl
      · have u2 : ∀ s o q r τ, tu s o q 5 (x.Fresh.map TEntry.ov) r τ = modS s o q (setRows 5 r) false τ := fun s o q r τ => tu_ne (by simpa using hE2)
        simp only [u2]
        simp only [go_sem, Nat.reduceLT, Nat.reduceAdd, Nat.reduceSub, Nat.reduceEqDiff, Nat.reduceLeDiff, Int.reduceEq, Int.reduceBEq, Int.reduceBNe, Int.reduceNeg, UInt8.reduceToNat, Nat.reduceBEq, hc0, hc1, hc2, mkL_len, List.length_map, hK1, hK2, hK3]
        refine wq_of (finishI_sh (σ := _) (τ := _) ⟨by simp, rfl⟩ (by simp only [go_sem, Nat.reduceLT, Nat.reduceAdd, Nat.reduceSub, Nat.reduceEqDiff, Nat.reduceLeDiff, Int.reduceEq, Int.reduceBEq, Int.reduceBNe, Int.reduceNeg, UInt8.reduceToNat, Nat.reduceBEq, len_modS, hd]) (by first | exact hp | exact plain_modS hp | exact plain_modS (plain_modS hp) | exact plain_modS (plain_modS (plain_modS hp))) (by decide) rfl) ?_
        show Eq _ _
        rw [u2, u1, u0]
        all_goals rfl
end Go.Proofs.YtblelojdboefjaaDoor.R
