/- What the laws' mark functions write. Printed by genmark.py. -/
import Derived.Test.YtblelojdboefjaaDoorMk
set_option maxRecDepth 100000
set_option linter.unusedVariables false
set_option linter.unusedSimpArgs false
namespace Go.Proofs.YtblelojdboefjaaDoor.R
open Go
def mAttr (x : TAttr) (k : Nat) : TAttr × Nat := (⟨mTxt (k), mTxt (k + 1)⟩, k + 1 + 1)
theorem mo_mAttr : ∀ x k, k ≤ (mAttr x k).2 := by
  intro x k
  unfold mAttr
  simp only
  omega
set_option maxHeartbeats 4000000 in
theorem markAttrS_ok (n : Nat) (hn : Big + 2 ≤ n) (d s o : Nat) (q : Path) (σ : St) (l : List TAttr) (ho : ∀ y ∈ l, TAttr.ok y) (k : Nat) (hl : l.length ≤ Bd) (hk : (mkL mAttr l k).2 ≤ 4611686018427387904) (hd : d < σ.length) (hp : plain (σ.getD d .undef) = true)
    (hc : (cellAt σ s o).atQ q = some (false, 2, l.map TAttr.pv)) : icall env n 37 d σ [.c .one [.br s o q 0 0 false 2 (l.map TAttr.pv)], .c .one [.sh false (.i .i64 ((k : Nat) : Int))]] = some ((tu s o q 2 (l.map TAttr.pv) ((mkL mAttr l k).1.map TAttr.pv) σ).set d (.c .one [.sh false (.i .i64 (((mkL mAttr l k).2 : Nat) : Int))]), .c .one [.sh false (.i .i64 (((mkL mAttr l k).2 : Nat) : Int))]) := by
  refine walkI (fn := Tryd.f37) (d0 := 1) hn rfl rfl (Nat.le_of_ble_eq_true rfl) fun m hd0 => ?_
  unfold Tryd.f37
  have hb : Bd = 1048576 := rfl
  have hT := fun k hk => markText_ok m (hd0 (by decide)) k hk
  simp only [go_sem, Nat.reduceLT, Nat.reduceAdd, Nat.reduceSub, Nat.reduceEqDiff, Nat.reduceLeDiff, Int.reduceEq, Int.reduceBEq, Int.reduceBNe, Int.reduceNeg, UInt8.reduceToNat, Nat.reduceBEq]
  refine wq_hid l.length (fun j σk => slots 29 [(0, .c .one [.br (s + 29) o q 0 0 false 2 (mkR mAttr TAttr.pv l k j)]), (1, .c .one [.sh false (.i .i64 (((mkL mAttr (l.take j) k).2 : Nat) : Int))]), (5, .c .one [.sh false (.i .i64 ((j : Nat) : Int))])] ++ upSt 29 σk) (Rnd s o q 2 d σ (mkR mAttr TAttr.pv l k)) (hd0 (Nat.zero_le _)) (by omega) ?_ (fun j σk hj h1 hw hI => ?_) (fun σk hI => ?_)
  · simp only [go_sem, Nat.reduceLT, Nat.reduceAdd, Nat.reduceSub, Nat.reduceEqDiff, Nat.reduceLeDiff, Int.reduceEq, Int.reduceBEq, Int.reduceBNe, Int.reduceNeg, UInt8.reduceToNat, Nat.reduceBEq]
    exact finE σ (by rw [mkR_zero]; rfl) ⟨.refl (by rw [mkR_zero]; exact hc) hp, fun _ => rfl, fun h => absurd h (Nat.lt_irrefl _)⟩
  · have hx : l[j]? = some l[j] := List.getElem?_eq_getElem hj
    have hox := ho _ (List.getElem_mem hj)
    generalize l[j] = x at hx hox
    have hW := hI.1
    have hcell := hW.cell
    have hg := mkR_get (f := mAttr) (pv := TAttr.pv) (k := k) hx
    have hlen := mkR_len (f := mAttr) (pv := TAttr.pv) (k := k) (Nat.le_of_lt hj)
    have hm := (mkL_mono (f := mAttr) mo_mAttr (l := l) (k := k) (j := j + 1)).2
    have ht : (mkL mAttr (l.take (j + 1)) k).2 = (mAttr x (mkL mAttr (l.take j) k).2).2 := by rw [mkL_take hx]
    have hs : ∀ p, p = TAttr.pv (mAttr x (mkL mAttr (l.take j) k).2).1 → (mkR mAttr TAttr.pv l k j).set j p = mkR mAttr TAttr.pv l k (j + 1) := fun p hp => mkR_set hx hp
    have hr : (mkR mAttr TAttr.pv l k (j + 1)).length = (mkR mAttr TAttr.pv l k j).length := by rw [hlen, mkR_len hj]
    obtain ⟨K0, hK⟩ : ∃ K, (mkL mAttr (l.take j) k).2 = K := ⟨_, rfl⟩
    rw [hK] at hs ht
    have ht' : (mkL mAttr (l.take (j + 1)) k).2 = K0 + 1 + 1 := by rw [ht]; simp only [mAttr]
    have hs' : (mkR mAttr TAttr.pv l k j).set j [.t (mTxt (K0)), .t (mTxt (K0 + 1))] = mkR mAttr TAttr.pv l k (j + 1) := hs _ (by simp only [mAttr, TAttr.pv])
    have w0 : IntKind.i64.wrap (((K0 : Nat) : Int) + 1) = ((K0 + 1 : Nat) : Int) := by rw [wrap_in (by omega) (by omega)]; omega
    have t0 := hT (K0) (by omega)
    have w1 : IntKind.i64.wrap (((K0 + 1 : Nat) : Int) + 1) = (((mkL mAttr (l.take (j + 1)) k).2 : Nat) : Int) := by rw [ht']; rw [wrap_in (by omega) (by omega)]; omega
    have t1 := hT (K0 + 1) (by omega)
    have hW1 := hW.store (r := (mkR mAttr TAttr.pv l k j).set j [.t (mTxt (K0)), .t x.Val]) (by simp only [List.length_set])
    have c1 := hW1.cell
    simp only [cellAt_modS] at c1
    simp only [go_sem, Nat.reduceLT, Nat.reduceAdd, Nat.reduceSub, Nat.reduceEqDiff, Nat.reduceLeDiff, Int.reduceEq, Int.reduceBEq, Int.reduceBNe, Int.reduceNeg, UInt8.reduceToNat, Nat.reduceBEq, h1, hlen, hcell, hg, hK, hw, List.length_set, w0, t0, w1, t1, c1, hs']
    exact finE _ rfl ⟨hW1.store (by simp only [List.length_set, hr]), fun h => absurd h (Nat.succ_ne_zero _), fun _ => hW1.nrm (by simp only [List.length_set, hr])⟩
  · have hlen := mkR_len (f := mAttr) (pv := TAttr.pv) (l := l) (k := k) (Nat.le_refl _)
    have he := hI.end (r0 := l.map TAttr.pv) (by simp)
    simp only [go_sem, Nat.reduceLT, Nat.reduceAdd, Nat.reduceSub, Nat.reduceEqDiff, Nat.reduceLeDiff, Int.reduceEq, Int.reduceBEq, Int.reduceBNe, Int.reduceNeg, UInt8.reduceToNat, Nat.reduceBEq, hlen, List.take_length]
    refine wq_of (finishI_sh (σ := σk) ⟨by simp, rfl⟩ (by rw [hI.1.len]; exact hd) hI.1.pl (by decide) rfl) ?_
    rw [he, mkR_end]
    rfl
set_option maxHeartbeats 4000000 in
theorem markByteS_ok (n : Nat) (hn : Big + 1 ≤ n) (d s o : Nat) (q : Path) (σ : St) (l : List UInt8) (ho : ∀ y ∈ l, okB y) (k : Nat) (hl : l.length ≤ Bd) (hk : (mkL mB l k).2 ≤ 4611686018427387904) (hd : d < σ.length) (hp : plain (σ.getD d .undef) = true)
    (hc : (cellAt σ s o).atQ q = some (false, 1, l.map bpv)) : icall env n 12 d σ [.c .one [.br s o q 0 0 false 1 (l.map bpv)], .c .one [.sh false (.i .i64 ((k : Nat) : Int))]] = some ((tu s o q 1 (l.map bpv) ((mkL mB l k).1.map bpv) σ).set d (.c .one [.sh false (.i .i64 (((mkL mB l k).2 : Nat) : Int))]), .c .one [.sh false (.i .i64 (((mkL mB l k).2 : Nat) : Int))]) := by
  refine walkI (fn := Tryd.f12) (d0 := 0) hn rfl rfl (Nat.le_of_ble_eq_true rfl) fun m hd0 => ?_
  unfold Tryd.f12
  have hb : Bd = 1048576 := rfl
  simp only [go_sem, Nat.reduceLT, Nat.reduceAdd, Nat.reduceSub, Nat.reduceEqDiff, Nat.reduceLeDiff, Int.reduceEq, Int.reduceBEq, Int.reduceBNe, Int.reduceNeg, UInt8.reduceToNat, Nat.reduceBEq]
  refine wq_hid l.length (fun j σk => slots 20 [(0, .c .one [.br (s + 20) o q 0 0 false 1 (mkR mB bpv l k j)]), (1, .c .one [.sh false (.i .i64 (((mkL mB (l.take j) k).2 : Nat) : Int))]), (5, .c .one [.sh false (.i .i64 ((j : Nat) : Int))])] ++ upSt 20 σk) (Rnd s o q 1 d σ (mkR mB bpv l k)) (hd0 (Nat.zero_le _)) (by omega) ?_ (fun j σk hj h1 hw hI => ?_) (fun σk hI => ?_)
  · simp only [go_sem, Nat.reduceLT, Nat.reduceAdd, Nat.reduceSub, Nat.reduceEqDiff, Nat.reduceLeDiff, Int.reduceEq, Int.reduceBEq, Int.reduceBNe, Int.reduceNeg, UInt8.reduceToNat, Nat.reduceBEq]
    exact finE σ (by rw [mkR_zero]; rfl) ⟨.refl (by rw [mkR_zero]; exact hc) hp, fun _ => rfl, fun h => absurd h (Nat.lt_irrefl _)⟩
  · have hx : l[j]? = some l[j] := List.getElem?_eq_getElem hj
    have hox := ho _ (List.getElem_mem hj)
    generalize l[j] = x at hx hox
    have hW := hI.1
    have hcell := hW.cell
    have hg := mkR_get (f := mB) (pv := bpv) (k := k) hx
    have hlen := mkR_len (f := mB) (pv := bpv) (k := k) (Nat.le_of_lt hj)
    have hm := (mkL_mono (f := mB) mo_mB (l := l) (k := k) (j := j + 1)).2
    have ht : (mkL mB (l.take (j + 1)) k).2 = (mB x (mkL mB (l.take j) k).2).2 := by rw [mkL_take hx]
    have hs : ∀ p, p = bpv (mB x (mkL mB (l.take j) k).2).1 → (mkR mB bpv l k j).set j p = mkR mB bpv l k (j + 1) := fun p hp => mkR_set hx hp
    have hr : (mkR mB bpv l k (j + 1)).length = (mkR mB bpv l k j).length := by rw [hlen, mkR_len hj]
    obtain ⟨K0, hK⟩ : ∃ K, (mkL mB (l.take j) k).2 = K := ⟨_, rfl⟩
    rw [hK] at hs ht
    have ht' : (mkL mB (l.take (j + 1)) k).2 = K0 + 1 := ht
    have w1 : IntKind.i64.wrap ((K0 : Int) + 1) = (((mkL mB (l.take (j + 1)) k).2 : Nat) : Int) := by rw [ht', wrap_in (by omega) (by omega)]; omega
    have hs' := hs _ rfl
    simp only [mB, bpv] at hs'
    simp only [go_sem, Nat.reduceLT, Nat.reduceAdd, Nat.reduceSub, Nat.reduceEqDiff, Nat.reduceLeDiff, Int.reduceEq, Int.reduceBEq, Int.reduceBNe, Int.reduceNeg, UInt8.reduceToNat, Nat.reduceBEq, h1, hlen, hcell, hg, hK, w1, hw, u8w, hs']
    exact finE _ rfl ⟨hW.store hr, fun h => absurd h (Nat.succ_ne_zero _), fun _ => hW.nrm hr⟩
  · have hlen := mkR_len (f := mB) (pv := bpv) (l := l) (k := k) (Nat.le_refl _)
    have he := hI.end (r0 := l.map bpv) (by simp)
    simp only [go_sem, Nat.reduceLT, Nat.reduceAdd, Nat.reduceSub, Nat.reduceEqDiff, Nat.reduceLeDiff, Int.reduceEq, Int.reduceBEq, Int.reduceBNe, Int.reduceNeg, UInt8.reduceToNat, Nat.reduceBEq, hlen, List.take_length]
    refine wq_of (finishI_sh (σ := σk) ⟨by simp, rfl⟩ (by rw [hI.1.len]; exact hd) hI.1.pl (by decide) rfl) ?_
    rw [he, mkR_end]
    rfl
def mEntry (x : TEntry) (k : Nat) : TEntry × Nat := (⟨mTxt (k), ((k + 1 : Nat) : Int), (mkL mB x.Data (k + 1 + 1)).1, (mkL mAttr x.Attrs ((mkL mB x.Data (k + 1 + 1)).2)).1, mTxt ((mkL mAttr x.Attrs ((mkL mB x.Data (k + 1 + 1)).2)).2)⟩, (mkL mAttr x.Attrs ((mkL mB x.Data (k + 1 + 1)).2)).2 + 1)
theorem mo_mEntry : ∀ x k, k ≤ (mEntry x k).2 := by
  intro x k
  have g0 := mkL_ge mo_mB (l := x.Data) (k := k + 1 + 1)
  have g1 := mkL_ge mo_mAttr (l := x.Attrs) (k := (mkL mB x.Data (k + 1 + 1)).2)
  unfold mEntry
  simp only
  omega
set_option maxHeartbeats 4000000 in
theorem markEntryS_ok (n : Nat) (hn : Big + 3 ≤ n) (d s o : Nat) (q : Path) (σ : St) (l : List TEntry) (ho : ∀ y ∈ l, TEntry.ok y) (k : Nat) (hl : l.length ≤ Bd) (hk : (mkL mEntry l k).2 ≤ 4611686018427387904) (hd : d < σ.length) (hp : plain (σ.getD d .undef) = true)
    (hc : (cellAt σ s o).atQ q = some (false, 5, l.map TEntry.ov)) : icall env n 39 d σ [.c .one [.br s o q 0 0 false 5 (l.map TEntry.ov)], .c .one [.sh false (.i .i64 ((k : Nat) : Int))]] = some ((tu s o q 5 (l.map TEntry.ov) ((mkL mEntry l k).1.map TEntry.ov) σ).set d (.c .one [.sh false (.i .i64 (((mkL mEntry l k).2 : Nat) : Int))]), .c .one [.sh false (.i .i64 (((mkL mEntry l k).2 : Nat) : Int))]) := by
  refine walkI (fn := Tryd.f39) (d0 := 2) hn rfl rfl (Nat.le_of_ble_eq_true rfl) fun m hd0 => ?_
  unfold Tryd.f39
  have hb : Bd = 1048576 := rfl
  have hT := fun k hk => markText_ok m (hd0 (by decide)) k hk
  simp only [go_sem, Nat.reduceLT, Nat.reduceAdd, Nat.reduceSub, Nat.reduceEqDiff, Nat.reduceLeDiff, Int.reduceEq, Int.reduceBEq, Int.reduceBNe, Int.reduceNeg, UInt8.reduceToNat, Nat.reduceBEq]
  refine wq_hid l.length (fun j σk => slots 50 [(0, .c .one [.br (s + 50) o q 0 0 false 5 (mkR mEntry TEntry.ov l k j)]), (1, .c .one [.sh false (.i .i64 (((mkL mEntry (l.take j) k).2 : Nat) : Int))]), (5, .c .one [.sh false (.i .i64 ((j : Nat) : Int))])] ++ upSt 50 σk) (Rnd s o q 5 d σ (mkR mEntry TEntry.ov l k)) (hd0 (Nat.zero_le _)) (by omega) ?_ (fun j σk hj h1 hw hI => ?_) (fun σk hI => ?_)
  · simp only [go_sem, Nat.reduceLT, Nat.reduceAdd, Nat.reduceSub, Nat.reduceEqDiff, Nat.reduceLeDiff, Int.reduceEq, Int.reduceBEq, Int.reduceBNe, Int.reduceNeg, UInt8.reduceToNat, Nat.reduceBEq]
    exact finE σ (by rw [mkR_zero]; rfl) ⟨.refl (by rw [mkR_zero]; exact hc) hp, fun _ => rfl, fun h => absurd h (Nat.lt_irrefl _)⟩
  · have hx : l[j]? = some l[j] := List.getElem?_eq_getElem hj
    have hox := ho _ (List.getElem_mem hj)
    generalize l[j] = x at hx hox
    have hW := hI.1
    have hcell := hW.cell
    have hg := mkR_get (f := mEntry) (pv := TEntry.ov) (k := k) hx
    have hlen := mkR_len (f := mEntry) (pv := TEntry.ov) (k := k) (Nat.le_of_lt hj)
    have hm := (mkL_mono (f := mEntry) mo_mEntry (l := l) (k := k) (j := j + 1)).2
    have ht : (mkL mEntry (l.take (j + 1)) k).2 = (mEntry x (mkL mEntry (l.take j) k).2).2 := by rw [mkL_take hx]
    have hs : ∀ p, p = TEntry.ov (mEntry x (mkL mEntry (l.take j) k).2).1 → (mkR mEntry TEntry.ov l k j).set j p = mkR mEntry TEntry.ov l k (j + 1) := fun p hp => mkR_set hx hp
    have hr : (mkR mEntry TEntry.ov l k (j + 1)).length = (mkR mEntry TEntry.ov l k j).length := by rw [hlen, mkR_len hj]
    obtain ⟨K0, hK⟩ : ∃ K, (mkL mEntry (l.take j) k).2 = K := ⟨_, rfl⟩
    rw [hK] at hs ht
    obtain ⟨K3, hK3⟩ : ∃ K, (mkL mB x.Data (K0 + 1 + 1)).2 = K := ⟨_, rfl⟩
    have ge2 := mkL_ge mo_mB (l := x.Data) (k := K0 + 1 + 1)
    rw [hK3] at ge2
    obtain ⟨K4, hK4⟩ : ∃ K, (mkL mAttr x.Attrs K3).2 = K := ⟨_, rfl⟩
    have ge3 := mkL_ge mo_mAttr (l := x.Attrs) (k := K3)
    rw [hK4] at ge3
    have ht' : (mkL mEntry (l.take (j + 1)) k).2 = K4 + 1 := by rw [ht]; simp only [mEntry, hK3, hK4]
    have hs' : (mkR mEntry TEntry.ov l k j).set j [.t (mTxt (K0)), .i .i64 ((K0 + 1 : Nat) : Int), .o 1 ((mkL mB x.Data (K0 + 1 + 1)).1.map bpv), .o 2 ((mkL mAttr x.Attrs (K3)).1.map TAttr.pv), .t (mTxt (K4))] = mkR mEntry TEntry.ov l k (j + 1) := hs _ (by simp only [mEntry, TEntry.ov, hK3, hK4])
    have w0 : IntKind.i64.wrap (((K0 : Nat) : Int) + 1) = ((K0 + 1 : Nat) : Int) := by rw [wrap_in (by omega) (by omega)]; omega
    have t0 := hT (K0) (by omega)
    have w1 : IntKind.i64.wrap (((K0 + 1 : Nat) : Int) + 1) = ((K0 + 1 + 1 : Nat) : Int) := by rw [wrap_in (by omega) (by omega)]; omega
    have w4 : IntKind.i64.wrap (((K4 : Nat) : Int) + 1) = (((mkL mEntry (l.take (j + 1)) k).2 : Nat) : Int) := by rw [ht']; rw [wrap_in (by omega) (by omega)]; omega
    have t4 := hT (K4) (by omega)
    have hW1 := hW.store (r := (mkR mEntry TEntry.ov l k j).set j [.t (mTxt (K0)), .i .i64 x.Kind, .o 1 (x.Data.map bpv), .o 2 (x.Attrs.map TAttr.pv), .t x.First]) (by simp only [List.length_set])
    have c1 := hW1.cell
    simp only [cellAt_modS] at c1
    have hW2 := hW1.store (r := (mkR mEntry TEntry.ov l k j).set j [.t (mTxt (K0)), .i .i64 ((K0 + 1 : Nat) : Int), .o 1 (x.Data.map bpv), .o 2 (x.Attrs.map TAttr.pv), .t x.First]) (by simp only [List.length_set])
    have c2 := hW2.cell
    simp only [cellAt_modS] at c2
    have hrow2 : ((mkR mEntry TEntry.ov l k j).set j [.t (mTxt (K0)), .i .i64 ((K0 + 1 : Nat) : Int), .o 1 (x.Data.map bpv), .o 2 (x.Attrs.map TAttr.pv), .t x.First])[j]? = some [.t (mTxt (K0)), .i .i64 ((K0 + 1 : Nat) : Int), .o 1 (x.Data.map bpv), .o 2 (x.Attrs.map TAttr.pv), .t x.First] := by rw [List.getElem?_set_self (by rw [hlen]; exact hj)]
    have n2 := hW2.sub hrow2 (j := 2) rfl
    simp only [cellAt_modS] at n2
    simp only [go_sem, Nat.reduceLT, Nat.reduceAdd, Nat.reduceSub, Nat.reduceEqDiff, Nat.reduceLeDiff, Int.reduceEq, Int.reduceBEq, Int.reduceBNe, Int.reduceNeg, UInt8.reduceToNat, Nat.reduceBEq, h1, hlen, hcell, hg, hK, hw, List.length_set, w0, t0, w1, w4, t4, c1, c2]
    refine wq_of (markByteS_ok m (hd0 (by decide)) _ _ _ _ _ x.Data hox.Data.1 (K0 + 1 + 1) hox.Data.2 (by rw [hK3]; omega) (by simp only [List.length_cons]; omega) rfl (by simp only [go_sem, Nat.reduceLT, Nat.reduceAdd, Nat.reduceSub, Nat.reduceEqDiff, Nat.reduceLeDiff, Int.reduceEq, Int.reduceBEq, Int.reduceBNe, Int.reduceNeg, UInt8.reduceToNat, Nat.reduceBEq, n2])) ?_
    rcases Classical.em (x.Data = []) with hE2 | hE2
    · have v2 : x.Data.map bpv = (mkL mB x.Data (K0 + 1 + 1)).1.map bpv := by rw [hE2]; rfl
      have u2 : ∀ s o q r τ, tu s o q 1 ((mkL mB x.Data (K0 + 1 + 1)).1.map bpv) r τ = τ := by rw [hE2]; intros; rfl
      have hN2 := hW2
      rw [v2] at hN2
      simp only [v2]
      simp only [u2]
      have c3 := hN2.cell
      simp only [cellAt_modS] at c3
      have hrow3 : ((mkR mEntry TEntry.ov l k j).set j [.t (mTxt (K0)), .i .i64 ((K0 + 1 : Nat) : Int), .o 1 ((mkL mB x.Data (K0 + 1 + 1)).1.map bpv), .o 2 (x.Attrs.map TAttr.pv), .t x.First])[j]? = some [.t (mTxt (K0)), .i .i64 ((K0 + 1 : Nat) : Int), .o 1 ((mkL mB x.Data (K0 + 1 + 1)).1.map bpv), .o 2 (x.Attrs.map TAttr.pv), .t x.First] := by rw [List.getElem?_set_self (by rw [hlen]; exact hj)]
      have n3 := hN2.sub hrow3 (j := 3) rfl
      simp only [cellAt_modS] at n3
      simp only [go_sem, Nat.reduceLT, Nat.reduceAdd, Nat.reduceSub, Nat.reduceEqDiff, Nat.reduceLeDiff, Int.reduceEq, Int.reduceBEq, Int.reduceBNe, Int.reduceNeg, UInt8.reduceToNat, Nat.reduceBEq, h1, hlen, hcell, hg, hK, hw, List.length_set, w0, t0, w1, w4, t4, c1, c2, c3, v2, hK3]
      refine wq_of (markAttrS_ok m (hd0 (by decide)) _ _ _ _ _ x.Attrs hox.Attrs.1 (K3) hox.Attrs.2 (by rw [hK4]; omega) (by simp only [List.length_cons]; omega) rfl (by simp only [go_sem, Nat.reduceLT, Nat.reduceAdd, Nat.reduceSub, Nat.reduceEqDiff, Nat.reduceLeDiff, Int.reduceEq, Int.reduceBEq, Int.reduceBNe, Int.reduceNeg, UInt8.reduceToNat, Nat.reduceBEq, n3])) ?_
      rcases Classical.em (x.Attrs = []) with hE3 | hE3
      · have v3 : x.Attrs.map TAttr.pv = (mkL mAttr x.Attrs (K3)).1.map TAttr.pv := by rw [hE3]; rfl
        have u3 : ∀ s o q r τ, tu s o q 2 ((mkL mAttr x.Attrs (K3)).1.map TAttr.pv) r τ = τ := by rw [hE3]; intros; rfl
        have hN3 := hN2
        rw [v3] at hN3
        simp only [v3]
        simp only [u3]
        have c4 := hN3.cell
        simp only [cellAt_modS] at c4
        simp only [go_sem, Nat.reduceLT, Nat.reduceAdd, Nat.reduceSub, Nat.reduceEqDiff, Nat.reduceLeDiff, Int.reduceEq, Int.reduceBEq, Int.reduceBNe, Int.reduceNeg, UInt8.reduceToNat, Nat.reduceBEq, h1, hlen, hcell, hg, hK, hw, List.length_set, w0, t0, w1, w4, t4, c1, c2, c3, v2, hK3, c4, v3, hK4, hs']
        exact finE _ rfl ⟨hN3.store (by simp only [List.length_set, hr]), fun h => absurd h (Nat.succ_ne_zero _), fun _ => hN3.nrm (by simp only [List.length_set, hr])⟩
      · have u3 : ∀ s o q r τ, tu s o q 2 (x.Attrs.map TAttr.pv) r τ = modS s o q (setRows 2 r) false τ := fun s o q r τ => tu_ne (by simpa using hE3)
        have hN3 := hN2.nest hrow3 (j := 3) rfl (r := (mkL mAttr x.Attrs (K3)).1.map TAttr.pv) (by simp only [List.length_map, mkL_len])
        simp only [List.set_set, List.set_cons_succ, List.set_cons_zero] at hN3
        simp only [u3]
        have c4 := hN3.cell
        simp only [cellAt_modS] at c4
        simp only [go_sem, Nat.reduceLT, Nat.reduceAdd, Nat.reduceSub, Nat.reduceEqDiff, Nat.reduceLeDiff, Int.reduceEq, Int.reduceBEq, Int.reduceBNe, Int.reduceNeg, UInt8.reduceToNat, Nat.reduceBEq, h1, hlen, hcell, hg, hK, hw, List.length_set, w0, t0, w1, w4, t4, c1, c2, c3, v2, hK3, c4, hrow3, hK4, mkL_len, List.length_map, hs']
        exact finE _ rfl ⟨hN3.store (by simp only [List.length_set, hr]), fun h => absurd h (Nat.succ_ne_zero _), fun _ => hN3.nrm (by simp only [List.length_set, hr])⟩
    · have u2 : ∀ s o q r τ, tu s o q 1 (x.Data.map bpv) r τ = modS s o q (setRows 1 r) false τ := fun s o q r τ => tu_ne (by simpa using hE2)
      have hN2 := hW2.nest hrow2 (j := 2) rfl (r := (mkL mB x.Data (K0 + 1 + 1)).1.map bpv) (by simp only [List.length_map, mkL_len])
      simp only [List.set_set, List.set_cons_succ, List.set_cons_zero] at hN2
      simp only [u2]
      have c3 := hN2.cell
      simp only [cellAt_modS] at c3
      have hrow3 : ((mkR mEntry TEntry.ov l k j).set j [.t (mTxt (K0)), .i .i64 ((K0 + 1 : Nat) : Int), .o 1 ((mkL mB x.Data (K0 + 1 + 1)).1.map bpv), .o 2 (x.Attrs.map TAttr.pv), .t x.First])[j]? = some [.t (mTxt (K0)), .i .i64 ((K0 + 1 : Nat) : Int), .o 1 ((mkL mB x.Data (K0 + 1 + 1)).1.map bpv), .o 2 (x.Attrs.map TAttr.pv), .t x.First] := by rw [List.getElem?_set_self (by rw [hlen]; exact hj)]
      have n3 := hN2.sub hrow3 (j := 3) rfl
      simp only [cellAt_modS] at n3
      simp only [go_sem, Nat.reduceLT, Nat.reduceAdd, Nat.reduceSub, Nat.reduceEqDiff, Nat.reduceLeDiff, Int.reduceEq, Int.reduceBEq, Int.reduceBNe, Int.reduceNeg, UInt8.reduceToNat, Nat.reduceBEq, h1, hlen, hcell, hg, hK, hw, List.length_set, w0, t0, w1, w4, t4, c1, c2, c3, hrow2, hK3, mkL_len, List.length_map]
      refine wq_of (markAttrS_ok m (hd0 (by decide)) _ _ _ _ _ x.Attrs hox.Attrs.1 (K3) hox.Attrs.2 (by rw [hK4]; omega) (by simp only [List.length_cons]; omega) rfl (by simp only [go_sem, Nat.reduceLT, Nat.reduceAdd, Nat.reduceSub, Nat.reduceEqDiff, Nat.reduceLeDiff, Int.reduceEq, Int.reduceBEq, Int.reduceBNe, Int.reduceNeg, UInt8.reduceToNat, Nat.reduceBEq, n3])) ?_
      rcases Classical.em (x.Attrs = []) with hE3 | hE3
      · have v3 : x.Attrs.map TAttr.pv = (mkL mAttr x.Attrs (K3)).1.map TAttr.pv := by rw [hE3]; rfl
        have u3 : ∀ s o q r τ, tu s o q 2 ((mkL mAttr x.Attrs (K3)).1.map TAttr.pv) r τ = τ := by rw [hE3]; intros; rfl
        have hN3 := hN2
        rw [v3] at hN3
        simp only [v3]
        simp only [u3]
        have c4 := hN3.cell
        simp only [cellAt_modS] at c4
        simp only [go_sem, Nat.reduceLT, Nat.reduceAdd, Nat.reduceSub, Nat.reduceEqDiff, Nat.reduceLeDiff, Int.reduceEq, Int.reduceBEq, Int.reduceBNe, Int.reduceNeg, UInt8.reduceToNat, Nat.reduceBEq, h1, hlen, hcell, hg, hK, hw, List.length_set, w0, t0, w1, w4, t4, c1, c2, c3, hrow2, hK3, mkL_len, List.length_map, c4, v3, hK4, hs']
        exact finE _ rfl ⟨hN3.store (by simp only [List.length_set, hr]), fun h => absurd h (Nat.succ_ne_zero _), fun _ => hN3.nrm (by simp only [List.length_set, hr])⟩
      · have u3 : ∀ s o q r τ, tu s o q 2 (x.Attrs.map TAttr.pv) r τ = modS s o q (setRows 2 r) false τ := fun s o q r τ => tu_ne (by simpa using hE3)
        have hN3 := hN2.nest hrow3 (j := 3) rfl (r := (mkL mAttr x.Attrs (K3)).1.map TAttr.pv) (by simp only [List.length_map, mkL_len])
        simp only [List.set_set, List.set_cons_succ, List.set_cons_zero] at hN3
        simp only [u3]
        have c4 := hN3.cell
        simp only [cellAt_modS] at c4
        simp only [go_sem, Nat.reduceLT, Nat.reduceAdd, Nat.reduceSub, Nat.reduceEqDiff, Nat.reduceLeDiff, Int.reduceEq, Int.reduceBEq, Int.reduceBNe, Int.reduceNeg, UInt8.reduceToNat, Nat.reduceBEq, h1, hlen, hcell, hg, hK, hw, List.length_set, w0, t0, w1, w4, t4, c1, c2, c3, hrow2, hK3, mkL_len, List.length_map, c4, hrow3, hK4, mkL_len, List.length_map, hs']
        exact finE _ rfl ⟨hN3.store (by simp only [List.length_set, hr]), fun h => absurd h (Nat.succ_ne_zero _), fun _ => hN3.nrm (by simp only [List.length_set, hr])⟩
  · have hlen := mkR_len (f := mEntry) (pv := TEntry.ov) (l := l) (k := k) (Nat.le_refl _)
    have he := hI.end (r0 := l.map TEntry.ov) (by simp)
    simp only [go_sem, Nat.reduceLT, Nat.reduceAdd, Nat.reduceSub, Nat.reduceEqDiff, Nat.reduceLeDiff, Int.reduceEq, Int.reduceBEq, Int.reduceBNe, Int.reduceNeg, UInt8.reduceToNat, Nat.reduceBEq, hlen, List.take_length]
    refine wq_of (finishI_sh (σ := σk) ⟨by simp, rfl⟩ (by rw [hI.1.len]; exact hd) hI.1.pl (by decide) rfl) ?_
    rw [he, mkR_end]
    rfl
set_option maxHeartbeats 4000000 in
theorem markStringS_ok (n : Nat) (hn : Big + 2 ≤ n) (d s o : Nat) (q : Path) (σ : St) (l : List ByteArray) (ho : ∀ y ∈ l, okS y) (k : Nat) (hl : l.length ≤ Bd) (hk : (mkL mS l k).2 ≤ 4611686018427387904) (hd : d < σ.length) (hp : plain (σ.getD d .undef) = true)
    (hc : (cellAt σ s o).atQ q = some (false, 1, l.map spv)) : icall env n 38 d σ [.c .one [.br s o q 0 0 false 1 (l.map spv)], .c .one [.sh false (.i .i64 ((k : Nat) : Int))]] = some ((tu s o q 1 (l.map spv) ((mkL mS l k).1.map spv) σ).set d (.c .one [.sh false (.i .i64 (((mkL mS l k).2 : Nat) : Int))]), .c .one [.sh false (.i .i64 (((mkL mS l k).2 : Nat) : Int))]) := by
  refine walkI (fn := Tryd.f38) (d0 := 1) hn rfl rfl (Nat.le_of_ble_eq_true rfl) fun m hd0 => ?_
  unfold Tryd.f38
  have hb : Bd = 1048576 := rfl
  have hT := fun k hk => markText_ok m (hd0 (by decide)) k hk
  simp only [go_sem, Nat.reduceLT, Nat.reduceAdd, Nat.reduceSub, Nat.reduceEqDiff, Nat.reduceLeDiff, Int.reduceEq, Int.reduceBEq, Int.reduceBNe, Int.reduceNeg, UInt8.reduceToNat, Nat.reduceBEq]
  refine wq_hid l.length (fun j σk => slots 20 [(0, .c .one [.br (s + 20) o q 0 0 false 1 (mkR mS spv l k j)]), (1, .c .one [.sh false (.i .i64 (((mkL mS (l.take j) k).2 : Nat) : Int))]), (5, .c .one [.sh false (.i .i64 ((j : Nat) : Int))])] ++ upSt 20 σk) (Rnd s o q 1 d σ (mkR mS spv l k)) (hd0 (Nat.zero_le _)) (by omega) ?_ (fun j σk hj h1 hw hI => ?_) (fun σk hI => ?_)
  · simp only [go_sem, Nat.reduceLT, Nat.reduceAdd, Nat.reduceSub, Nat.reduceEqDiff, Nat.reduceLeDiff, Int.reduceEq, Int.reduceBEq, Int.reduceBNe, Int.reduceNeg, UInt8.reduceToNat, Nat.reduceBEq]
    exact finE σ (by rw [mkR_zero]; rfl) ⟨.refl (by rw [mkR_zero]; exact hc) hp, fun _ => rfl, fun h => absurd h (Nat.lt_irrefl _)⟩
  · have hx : l[j]? = some l[j] := List.getElem?_eq_getElem hj
    have hox := ho _ (List.getElem_mem hj)
    generalize l[j] = x at hx hox
    have hW := hI.1
    have hcell := hW.cell
    have hg := mkR_get (f := mS) (pv := spv) (k := k) hx
    have hlen := mkR_len (f := mS) (pv := spv) (k := k) (Nat.le_of_lt hj)
    have hm := (mkL_mono (f := mS) mo_mS (l := l) (k := k) (j := j + 1)).2
    have ht : (mkL mS (l.take (j + 1)) k).2 = (mS x (mkL mS (l.take j) k).2).2 := by rw [mkL_take hx]
    have hs : ∀ p, p = spv (mS x (mkL mS (l.take j) k).2).1 → (mkR mS spv l k j).set j p = mkR mS spv l k (j + 1) := fun p hp => mkR_set hx hp
    have hr : (mkR mS spv l k (j + 1)).length = (mkR mS spv l k j).length := by rw [hlen, mkR_len hj]
    obtain ⟨K0, hK⟩ : ∃ K, (mkL mS (l.take j) k).2 = K := ⟨_, rfl⟩
    rw [hK] at hs ht
    have ht' : (mkL mS (l.take (j + 1)) k).2 = K0 + 1 := ht
    have w1 : IntKind.i64.wrap ((K0 : Int) + 1) = (((mkL mS (l.take (j + 1)) k).2 : Nat) : Int) := by rw [ht', wrap_in (by omega) (by omega)]; omega
    have hs' := hs _ rfl
    simp only [mS, spv] at hs'
    have t1 := hT K0 (by omega)
    simp only [go_sem, Nat.reduceLT, Nat.reduceAdd, Nat.reduceSub, Nat.reduceEqDiff, Nat.reduceLeDiff, Int.reduceEq, Int.reduceBEq, Int.reduceBNe, Int.reduceNeg, UInt8.reduceToNat, Nat.reduceBEq, h1, hlen, hcell, hg, hK, w1, hw, hs', t1]
    exact finE _ rfl ⟨hW.store hr, fun h => absurd h (Nat.succ_ne_zero _), fun _ => hW.nrm hr⟩
  · have hlen := mkR_len (f := mS) (pv := spv) (l := l) (k := k) (Nat.le_refl _)
    have he := hI.end (r0 := l.map spv) (by simp)
    simp only [go_sem, Nat.reduceLT, Nat.reduceAdd, Nat.reduceSub, Nat.reduceEqDiff, Nat.reduceLeDiff, Int.reduceEq, Int.reduceBEq, Int.reduceBNe, Int.reduceNeg, UInt8.reduceToNat, Nat.reduceBEq, hlen, List.take_length]
    refine wq_of (finishI_sh (σ := σk) ⟨by simp, rfl⟩ (by rw [hI.1.len]; exact hd) hI.1.pl (by decide) rfl) ?_
    rw [he, mkR_end]
    rfl
set_option maxHeartbeats 4000000 in
theorem heldAttrS_ok (n : Nat) (hn : Big + 2 ≤ n) (l : List TAttr) (ho : ∀ y ∈ l, TAttr.ok y) (k : Nat) (hl : l.length ≤ Bd) (hk : (mkL mAttr l k).2 ≤ 4611686018427387904) : pcall env n 50 [.c .one [.sh true (.s 2 ((mkL mAttr l k).1.map TAttr.pv))], .c .one [.sh false (.i .i64 ((k : Nat) : Int))]] [] = some ⟨.c .one [.sh false (.i .i64 (((mkL mAttr l k).2 : Nat) : Int))], []⟩ := by
  refine walk (fn := Tryd.f50) (d := 1) hn rfl rfl rfl (Nat.le_of_ble_eq_true rfl) fun m hd0 => ?_
  unfold Tryd.f50
  have hb : Bd = 1048576 := rfl
  have hT := fun k hk => markText_ok m (hd0 (by decide)) k hk
  simp only [go_sem, Nat.reduceLT, Nat.reduceAdd, Nat.reduceSub, Nat.reduceEqDiff, Nat.reduceLeDiff, Int.reduceEq, Int.reduceBEq, Int.reduceBNe, Int.reduceNeg, UInt8.reduceToNat, Nat.reduceBEq]
  refine wq_each l (fun j => slots 33 [(0, .c .one [.sh true (.s 2 ((mkL mAttr l k).1.map TAttr.pv))]), (1, .c .one [.sh false (.i .i64 (((mkL mAttr (l.take j) k).2 : Nat) : Int))]), (5, .c .one [.sh false (.i .i64 ((j : Nat) : Int))])]) (fun _ => True) (hd0 (Nat.zero_le _)) (by omega) ?_ (fun j x hx hm hj h1 hw _ => ?_) (fun _ => ?_)
  · simp only [go_sem, Nat.reduceLT, Nat.reduceAdd, Nat.reduceSub, Nat.reduceEqDiff, Nat.reduceLeDiff, Int.reduceEq, Int.reduceBEq, Int.reduceBNe, Int.reduceNeg, UInt8.reduceToNat, Nat.reduceBEq]; exact fin' rfl
  · have hox := ho _ hm
    have hg := mkL_get (f := mAttr) (k := k) hx
    have hle := (mkL_mono (f := mAttr) mo_mAttr (l := l) (k := k) (j := j + 1)).2
    have ht : (mkL mAttr (l.take (j + 1)) k).2 = (mAttr x (mkL mAttr (l.take j) k).2).2 := by rw [mkL_take hx]
    obtain ⟨K0, hK⟩ : ∃ K, (mkL mAttr (l.take j) k).2 = K := ⟨_, rfl⟩
    rw [hK] at hg ht
    have ht' : (mkL mAttr (l.take (j + 1)) k).2 = K0 + 1 + 1 := by rw [ht]; simp only [mAttr]
    have w0 : IntKind.i64.wrap (((K0 : Nat) : Int) + 1) = ((K0 + 1 : Nat) : Int) := by rw [wrap_in (by omega) (by omega)]; omega
    have t0 := hT (K0) (by omega)
    have w1 : IntKind.i64.wrap (((K0 + 1 : Nat) : Int) + 1) = (((mkL mAttr (l.take (j + 1)) k).2 : Nat) : Int) := by rw [ht']; rw [wrap_in (by omega) (by omega)]; omega
    have t1 := hT (K0 + 1) (by omega)
    simp only [go_sem, Nat.reduceLT, Nat.reduceAdd, Nat.reduceSub, Nat.reduceEqDiff, Nat.reduceLeDiff, Int.reduceEq, Int.reduceBEq, Int.reduceBNe, Int.reduceNeg, UInt8.reduceToNat, Nat.reduceBEq, h1, hg, hK, hw, mkL_len, List.length_map, w0, t0, w1, t1, mAttr]
    exact chk (by kernel_rfl) (chk (by kernel_rfl) (fin' rfl))
  · simp only [go_sem, Nat.reduceLT, Nat.reduceAdd, Nat.reduceSub, Nat.reduceEqDiff, Nat.reduceLeDiff, Int.reduceEq, Int.reduceBEq, Int.reduceBNe, Int.reduceNeg, UInt8.reduceToNat, Nat.reduceBEq, mkL_len, List.length_map, List.take_length]
set_option maxHeartbeats 4000000 in
theorem heldByteS_ok (n : Nat) (hn : Big + 1 ≤ n) (l : List UInt8) (ho : ∀ y ∈ l, okB y) (k : Nat) (hl : l.length ≤ Bd) (hk : (mkL mB l k).2 ≤ 4611686018427387904) : pcall env n 13 [.c .one [.sh true (.s 1 ((mkL mB l k).1.map bpv))], .c .one [.sh false (.i .i64 ((k : Nat) : Int))]] [] = some ⟨.c .one [.sh false (.i .i64 (((mkL mB l k).2 : Nat) : Int))], []⟩ := by
  refine walk (fn := Tryd.f13) (d := 0) hn rfl rfl rfl (Nat.le_of_ble_eq_true rfl) fun m hd0 => ?_
  unfold Tryd.f13
  have hb : Bd = 1048576 := rfl
  simp only [go_sem, Nat.reduceLT, Nat.reduceAdd, Nat.reduceSub, Nat.reduceEqDiff, Nat.reduceLeDiff, Int.reduceEq, Int.reduceBEq, Int.reduceBNe, Int.reduceNeg, UInt8.reduceToNat, Nat.reduceBEq]
  refine wq_each l (fun j => slots 22 [(0, .c .one [.sh true (.s 1 ((mkL mB l k).1.map bpv))]), (1, .c .one [.sh false (.i .i64 (((mkL mB (l.take j) k).2 : Nat) : Int))]), (5, .c .one [.sh false (.i .i64 ((j : Nat) : Int))])]) (fun _ => True) (hd0 (Nat.zero_le _)) (by omega) ?_ (fun j x hx hm hj h1 hw _ => ?_) (fun _ => ?_)
  · simp only [go_sem, Nat.reduceLT, Nat.reduceAdd, Nat.reduceSub, Nat.reduceEqDiff, Nat.reduceLeDiff, Int.reduceEq, Int.reduceBEq, Int.reduceBNe, Int.reduceNeg, UInt8.reduceToNat, Nat.reduceBEq]; exact fin' rfl
  · have hox := ho _ hm
    have hg := mkL_get (f := mB) (k := k) hx
    have hle := (mkL_mono (f := mB) mo_mB (l := l) (k := k) (j := j + 1)).2
    have ht : (mkL mB (l.take (j + 1)) k).2 = (mB x (mkL mB (l.take j) k).2).2 := by rw [mkL_take hx]
    obtain ⟨K0, hK⟩ : ∃ K, (mkL mB (l.take j) k).2 = K := ⟨_, rfl⟩
    rw [hK] at hg ht
    have ht' : (mkL mB (l.take (j + 1)) k).2 = K0 + 1 := by rw [ht]; simp only [mB]
    simp only [mB, mB] at hg
    have w0 : IntKind.i64.wrap (((K0 : Nat) : Int) + 1) = (((mkL mB (l.take (j + 1)) k).2 : Nat) : Int) := by rw [ht']; rw [wrap_in (by omega) (by omega)]; omega
    simp only [go_sem, Nat.reduceLT, Nat.reduceAdd, Nat.reduceSub, Nat.reduceEqDiff, Nat.reduceLeDiff, Int.reduceEq, Int.reduceBEq, Int.reduceBNe, Int.reduceNeg, UInt8.reduceToNat, Nat.reduceBEq, h1, hg, hK, hw, mkL_len, List.length_map, w0, u8w]
    exact fin' rfl
  · simp only [go_sem, Nat.reduceLT, Nat.reduceAdd, Nat.reduceSub, Nat.reduceEqDiff, Nat.reduceLeDiff, Int.reduceEq, Int.reduceBEq, Int.reduceBNe, Int.reduceNeg, UInt8.reduceToNat, Nat.reduceBEq, mkL_len, List.length_map, List.take_length]
set_option maxHeartbeats 4000000 in
theorem heldEntryS_ok (n : Nat) (hn : Big + 3 ≤ n) (l : List TEntry) (ho : ∀ y ∈ l, TEntry.ok y) (k : Nat) (hl : l.length ≤ Bd) (hk : (mkL mEntry l k).2 ≤ 4611686018427387904) : pcall env n 52 [.c .one [.sh true (.s 5 ((mkL mEntry l k).1.map TEntry.pv))], .c .one [.sh false (.i .i64 ((k : Nat) : Int))]] [] = some ⟨.c .one [.sh false (.i .i64 (((mkL mEntry l k).2 : Nat) : Int))], []⟩ := by
  refine walk (fn := Tryd.f52) (d := 2) hn rfl rfl rfl (Nat.le_of_ble_eq_true rfl) fun m hd0 => ?_
  unfold Tryd.f52
  have hb : Bd = 1048576 := rfl
  have hT := fun k hk => markText_ok m (hd0 (by decide)) k hk
  simp only [go_sem, Nat.reduceLT, Nat.reduceAdd, Nat.reduceSub, Nat.reduceEqDiff, Nat.reduceLeDiff, Int.reduceEq, Int.reduceBEq, Int.reduceBNe, Int.reduceNeg, UInt8.reduceToNat, Nat.reduceBEq]
  refine wq_each l (fun j => slots 60 [(0, .c .one [.sh true (.s 5 ((mkL mEntry l k).1.map TEntry.pv))]), (1, .c .one [.sh false (.i .i64 (((mkL mEntry (l.take j) k).2 : Nat) : Int))]), (5, .c .one [.sh false (.i .i64 ((j : Nat) : Int))])]) (fun _ => True) (hd0 (Nat.zero_le _)) (by omega) ?_ (fun j x hx hm hj h1 hw _ => ?_) (fun _ => ?_)
  · simp only [go_sem, Nat.reduceLT, Nat.reduceAdd, Nat.reduceSub, Nat.reduceEqDiff, Nat.reduceLeDiff, Int.reduceEq, Int.reduceBEq, Int.reduceBNe, Int.reduceNeg, UInt8.reduceToNat, Nat.reduceBEq]; exact fin' rfl
  · have hox := ho _ hm
    have hg := mkL_get (f := mEntry) (k := k) hx
    have hle := (mkL_mono (f := mEntry) mo_mEntry (l := l) (k := k) (j := j + 1)).2
    have ht : (mkL mEntry (l.take (j + 1)) k).2 = (mEntry x (mkL mEntry (l.take j) k).2).2 := by rw [mkL_take hx]
    obtain ⟨K0, hK⟩ : ∃ K, (mkL mEntry (l.take j) k).2 = K := ⟨_, rfl⟩
    rw [hK] at hg ht
    obtain ⟨K3, hK3⟩ : ∃ K, (mkL mB x.Data (K0 + 1 + 1)).2 = K := ⟨_, rfl⟩
    have ge2 := mkL_ge mo_mB (l := x.Data) (k := K0 + 1 + 1)
    rw [hK3] at ge2
    obtain ⟨K4, hK4⟩ : ∃ K, (mkL mAttr x.Attrs (K3)).2 = K := ⟨_, rfl⟩
    have ge3 := mkL_ge mo_mAttr (l := x.Attrs) (k := K3)
    rw [hK4] at ge3
    have ht' : (mkL mEntry (l.take (j + 1)) k).2 = K4 + 1 := by rw [ht]; simp only [mEntry, hK3, hK4]
    have w0 : IntKind.i64.wrap (((K0 : Nat) : Int) + 1) = ((K0 + 1 : Nat) : Int) := by rw [wrap_in (by omega) (by omega)]; omega
    have t0 := hT (K0) (by omega)
    have w1 : IntKind.i64.wrap (((K0 + 1 : Nat) : Int) + 1) = ((K0 + 1 + 1 : Nat) : Int) := by rw [wrap_in (by omega) (by omega)]; omega
    have t2 := heldByteS_ok m (hd0 (by decide)) x.Data hox.Data.1 (K0 + 1 + 1) hox.Data.2 (by rw [hK3]; omega)
    rw [hK3] at t2
    have t3 := heldAttrS_ok m (hd0 (by decide)) x.Attrs hox.Attrs.1 (K3) hox.Attrs.2 (by rw [hK4]; omega)
    rw [hK4] at t3
    have w4 : IntKind.i64.wrap (((K4 : Nat) : Int) + 1) = (((mkL mEntry (l.take (j + 1)) k).2 : Nat) : Int) := by rw [ht']; rw [wrap_in (by omega) (by omega)]; omega
    have t4 := hT (K4) (by omega)
    simp only [go_sem, Nat.reduceLT, Nat.reduceAdd, Nat.reduceSub, Nat.reduceEqDiff, Nat.reduceLeDiff, Int.reduceEq, Int.reduceBEq, Int.reduceBNe, Int.reduceNeg, UInt8.reduceToNat, Nat.reduceBEq, h1, hg, hK, hw, mkL_len, List.length_map, w0, t0, w1, t2, t3, w4, t4, mEntry, hK3, hK4]
    exact chk (by kernel_rfl) (chk (by kernel_rfl) (fin' rfl))
  · simp only [go_sem, Nat.reduceLT, Nat.reduceAdd, Nat.reduceSub, Nat.reduceEqDiff, Nat.reduceLeDiff, Int.reduceEq, Int.reduceBEq, Int.reduceBNe, Int.reduceNeg, UInt8.reduceToNat, Nat.reduceBEq, mkL_len, List.length_map, List.take_length]
set_option maxHeartbeats 4000000 in
theorem heldStringS_ok (n : Nat) (hn : Big + 2 ≤ n) (l : List ByteArray) (ho : ∀ y ∈ l, okS y) (k : Nat) (hl : l.length ≤ Bd) (hk : (mkL mS l k).2 ≤ 4611686018427387904) : pcall env n 51 [.c .one [.sh true (.s 1 ((mkL mS l k).1.map spv))], .c .one [.sh false (.i .i64 ((k : Nat) : Int))]] [] = some ⟨.c .one [.sh false (.i .i64 (((mkL mS l k).2 : Nat) : Int))], []⟩ := by
  refine walk (fn := Tryd.f51) (d := 1) hn rfl rfl rfl (Nat.le_of_ble_eq_true rfl) fun m hd0 => ?_
  unfold Tryd.f51
  have hb : Bd = 1048576 := rfl
  have hT := fun k hk => markText_ok m (hd0 (by decide)) k hk
  simp only [go_sem, Nat.reduceLT, Nat.reduceAdd, Nat.reduceSub, Nat.reduceEqDiff, Nat.reduceLeDiff, Int.reduceEq, Int.reduceBEq, Int.reduceBNe, Int.reduceNeg, UInt8.reduceToNat, Nat.reduceBEq]
  refine wq_each l (fun j => slots 22 [(0, .c .one [.sh true (.s 1 ((mkL mS l k).1.map spv))]), (1, .c .one [.sh false (.i .i64 (((mkL mS (l.take j) k).2 : Nat) : Int))]), (5, .c .one [.sh false (.i .i64 ((j : Nat) : Int))])]) (fun _ => True) (hd0 (Nat.zero_le _)) (by omega) ?_ (fun j x hx hm hj h1 hw _ => ?_) (fun _ => ?_)
  · simp only [go_sem, Nat.reduceLT, Nat.reduceAdd, Nat.reduceSub, Nat.reduceEqDiff, Nat.reduceLeDiff, Int.reduceEq, Int.reduceBEq, Int.reduceBNe, Int.reduceNeg, UInt8.reduceToNat, Nat.reduceBEq]; exact fin' rfl
  · have hox := ho _ hm
    have hg := mkL_get (f := mS) (k := k) hx
    have hle := (mkL_mono (f := mS) mo_mS (l := l) (k := k) (j := j + 1)).2
    have ht : (mkL mS (l.take (j + 1)) k).2 = (mS x (mkL mS (l.take j) k).2).2 := by rw [mkL_take hx]
    obtain ⟨K0, hK⟩ : ∃ K, (mkL mS (l.take j) k).2 = K := ⟨_, rfl⟩
    rw [hK] at hg ht
    have ht' : (mkL mS (l.take (j + 1)) k).2 = K0 + 1 := by rw [ht]; simp only [mS]
    simp only [mS, mS] at hg
    have w0 : IntKind.i64.wrap (((K0 : Nat) : Int) + 1) = (((mkL mS (l.take (j + 1)) k).2 : Nat) : Int) := by rw [ht']; rw [wrap_in (by omega) (by omega)]; omega
    have t0 := hT (K0) (by omega)
    simp only [go_sem, Nat.reduceLT, Nat.reduceAdd, Nat.reduceSub, Nat.reduceEqDiff, Nat.reduceLeDiff, Int.reduceEq, Int.reduceBEq, Int.reduceBNe, Int.reduceNeg, UInt8.reduceToNat, Nat.reduceBEq, h1, hg, hK, hw, mkL_len, List.length_map, w0, t0]
    exact chk (by kernel_rfl) (fin' rfl)
  · simp only [go_sem, Nat.reduceLT, Nat.reduceAdd, Nat.reduceSub, Nat.reduceEqDiff, Nat.reduceLeDiff, Int.reduceEq, Int.reduceBEq, Int.reduceBNe, Int.reduceNeg, UInt8.reduceToNat, Nat.reduceBEq, mkL_len, List.length_map, List.take_length]
end Go.Proofs.YtblelojdboefjaaDoor.R
