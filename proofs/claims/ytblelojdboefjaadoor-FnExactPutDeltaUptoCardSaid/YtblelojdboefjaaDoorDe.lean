/- The law PutDelta walked. -/
import Derived.Test.YtblelojdboefjaaDoorDc
import Derived.Test.YtblelojdboefjaaDoorDd
set_option maxRecDepth 100000
set_option linter.unusedVariables false
set_option linter.unusedSimpArgs false
namespace Go.Proofs.YtblelojdboefjaaDoor.R
open Go
theorem putD_len (d : TDelta) : (putD d).length ≤ 20000 := by
  unfold putD
  split
  · split
    · exact Nat.zero_le _
    · rename_i h; exact Nat.le_of_not_lt h
  · exact Nat.zero_le _
theorem mk_le {α : Type} {f : α → Nat → α × Nat} {c : Nat} : ∀ (l : List α) (k : Nat), (∀ x ∈ l, ∀ k, (f x k).2 ≤ k + c) → (mkL f l k).2 ≤ k + l.length * c
  | [], k, _ => by simp [mkL]
  | x :: l, k, hf => by
    have h1 := hf x List.mem_cons_self k
    have h2 := mk_le l (f x k).2 fun y hy => hf y (List.mem_cons_of_mem _ hy)
    simp only [mkL, List.length_cons, Nat.succ_mul]
    omega
theorem mk_bd {α : Type} {f : α → Nat → α × Nat} {c b : Nat} {l : List α} {k : Nat} (hf : ∀ x ∈ l, ∀ k, (f x k).2 ≤ k + c) (hl : l.length ≤ b) : (mkL f l k).2 ≤ k + b * c :=
  Nat.le_trans (mk_le l k hf) (Nat.add_le_add_left (Nat.mul_le_mul_right _ hl) _)
theorem mDelta_le {x : TDelta} (hx : x.ok) : mDelta x 1 ≤ 4611686018427387904 := by
  have ha : ∀ (l : List TAttr) (k : Nat), l.length ≤ 1048576 → (mkL mAttr l k).2 ≤ k + 1048576 * 2 := fun l k h => mk_bd (fun x _ k => Nat.le_refl _) h
  have h1 := ha x.Attrs 1 hx.Attrs.2
  have h2 : (mkL mS x.Gone (mkL mAttr x.Attrs 1).2).2 ≤ (mkL mAttr x.Attrs 1).2 + 1048576 * 1 := mk_bd (fun x _ k => Nat.le_refl _) hx.Gone.2
  have h3 : (mkL mEntry x.Fresh (mkL mS x.Gone (mkL mAttr x.Attrs 1).2).2).2 ≤ (mkL mS x.Gone (mkL mAttr x.Attrs 1).2).2 + 1048576 * 4194304 := mk_bd (fun e he k => by
    have h4 := mk_bd (f := mB) (c := 1) (l := e.Data) (k := k + 1 + 1) (fun x _ k => Nat.le_refl _) (hx.Fresh.1 e he).Data.2
    have h5 := ha e.Attrs (mkL mB e.Data (k + 1 + 1)).2 (hx.Fresh.1 e he).Attrs.2
    have hb : Bd = 1048576 := rfl
    simp only [mEntry]
    omega) hx.Fresh.2
  unfold mDelta
  omega
set_option maxHeartbeats 4000000 in
theorem law_ok (n : Nat) (hn : Big + 2000001 ≤ n) (x : TDelta) (hx : x.ok) : pcall env n 3 [.c .agg (x.pv.map argC')] [] = some ⟨pvSV (.b true), []⟩ := by
  refine walk (fn := Tryd.f3) (d := 2000000) hn rfl rfl rfl (Nat.le_of_ble_eq_true rfl) fun m hd => ?_
  unfold Tryd.f3
  obtain ⟨g, c0⟩ := szDelta_ok m (hd (by decide)) x hx
  have c1 := toDelta_ok m (hd (by decide)) x hx
  have c2 := putDeltaS_ok m (hd (by decide)) x hx
  have c3 := putDeltaI_ok m (hd (by decide)) x hx
  have c4 := eqDelta_ok m (hd (by decide)) x hx
  have hl := putD_len x
  have hb : Bd = 1048576 := rfl
  generalize putD x = L at c2 c3 hl
  have c5 := eqByteS_ok m (hd (by decide)) L (fun _ _ => trivial) (by omega)
  simp only [go_sem] at c0 c1 c2 c3 c4 c5
  simp only [go_sem, Nat.reduceLT, Nat.reduceAdd, Nat.reduceSub, Nat.reduceEqDiff, Nat.reduceLeDiff, Int.reduceEq, Int.reduceBEq, Int.reduceBNe, Int.reduceNeg, UInt8.reduceToNat, Nat.reduceBEq, c0, c1, c2, c3, c4, c5]
  refine bq_mk (fun h => ?_) (fun h => ?_)
  · simp only [go_sem, Nat.reduceLT, Nat.reduceAdd, Nat.reduceSub, Nat.reduceEqDiff, Nat.reduceLeDiff, Int.reduceEq, Int.reduceBEq, Int.reduceBNe, Int.reduceNeg, UInt8.reduceToNat, Nat.reduceBEq, h]
  · simp only [go_sem, Nat.reduceLT, Nat.reduceAdd, Nat.reduceSub, Nat.reduceEqDiff, Nat.reduceLeDiff, Int.reduceEq, Int.reduceBEq, Int.reduceBNe, Int.reduceNeg, UInt8.reduceToNat, Nat.reduceBEq, h, c0, c1, c2, c3, c4, c5]
    refine chk (by kernel_rfl) ?_
    have hk := mDelta_le hx
    refine wq_of (markDelta_ok m (hd (by decide)) _ _ _ x hx 1 hk (by simp only [List.length_cons]; omega) rfl rfl rfl rfl) ?_
    have hM : (mkL mB L 1).2 ≤ 4611686018427387904 := by have := mk_bd (f := mB) (c := 1) (l := L) (k := 1) (fun x _ k => Nat.le_refl _) hl; omega
    have g1 := heldByteS_ok m (hd (by decide)) L (fun _ _ => trivial) 1 (by omega) hM
    simp only [go_sem] at g1
    generalize mDelta x 1 = KD
    have a0 : (∀ s o q r τ, tu s o q 2 (x.Attrs.map TAttr.pv) r τ = τ) ∨ (∀ s o q r τ, tu s o q 2 (x.Attrs.map TAttr.pv) r τ = modS s o q (setRows 2 r) false τ) := by
      rcases Classical.em (x.Attrs = []) with hE | hE
      · exact .inl (by rw [hE]; intros; rfl)
      · exact .inr fun s o q r τ => tu_ne (by simpa using hE)
    have a1 : (∀ s o q r τ, tu s o q 1 (x.Gone.map spv) r τ = τ) ∨ (∀ s o q r τ, tu s o q 1 (x.Gone.map spv) r τ = modS s o q (setRows 1 r) false τ) := by
      rcases Classical.em (x.Gone = []) with hE | hE
      · exact .inl (by rw [hE]; intros; rfl)
      · exact .inr fun s o q r τ => tu_ne (by simpa using hE)
    have a2 : (∀ s o q r τ, tu s o q 5 (x.Fresh.map TEntry.ov) r τ = τ) ∨ (∀ s o q r τ, tu s o q 5 (x.Fresh.map TEntry.ov) r τ = modS s o q (setRows 5 r) false τ) := by
      rcases Classical.em (x.Fresh = []) with hE | hE
      · exact .inl (by rw [hE]; intros; rfl)
      · exact .inr fun s o q r τ => tu_ne (by simpa using hE)
    rcases a0 with a0 | a0 <;> rcases a1 with a1 | a1 <;> rcases a2 with a2 | a2
    all_goals
      simp only [a0, a1, a2]
      simp only [go_sem, Nat.reduceLT, Nat.reduceAdd, Nat.reduceSub, Nat.reduceEqDiff, Nat.reduceLeDiff, Int.reduceEq, Int.reduceBEq, Int.reduceBNe, Int.reduceNeg, UInt8.reduceToNat, Nat.reduceBEq, c5, mkL_len, List.length_map]
      refine wq_of (markByteS_ok m (hd (by decide)) _ _ _ _ _ L (fun _ _ => trivial) 1 (by omega) hM (by simp only [List.length_cons]; omega) rfl rfl) ?_
      rcases Classical.em (L = []) with hE | hE
      · have v : L.map bpv = (mkL mB L 1).1.map bpv := by rw [hE]; rfl
        have u : ∀ s o q r τ, tu s o q 1 ((mkL mB L 1).1.map bpv) r τ = τ := by rw [hE]; intros; rfl
        rw [v] at c3 c5
        simp only [v]
        simp only [u]
        generalize (mkL mB L 1).1 = R at g1 c3 c5
        generalize (mkL mB L 1).2 = K at g1
        simp only [go_sem, Nat.reduceLT, Nat.reduceAdd, Nat.reduceSub, Nat.reduceEqDiff, Nat.reduceLeDiff, Int.reduceEq, Int.reduceBEq, Int.reduceBNe, Int.reduceNeg, UInt8.reduceToNat, Nat.reduceBEq, c1, c3, c5, g1]
      · have u : ∀ s o q r τ, tu s o q 1 (L.map bpv) r τ = modS s o q (setRows 1 r) false τ := fun s o q r τ => tu_ne (by simpa using hE)
        simp only [u]
        simp only [go_sem, Nat.reduceLT, Nat.reduceAdd, Nat.reduceSub, Nat.reduceEqDiff, Nat.reduceLeDiff, Int.reduceEq, Int.reduceBEq, Int.reduceBNe, Int.reduceNeg, UInt8.reduceToNat, Nat.reduceBEq, c1, c3, c5, g1, mkL_len, List.length_map]
end Go.Proofs.YtblelojdboefjaaDoor.R
