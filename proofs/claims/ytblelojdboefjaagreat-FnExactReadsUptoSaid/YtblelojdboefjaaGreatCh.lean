/- Reads of both sides. -/
import Derived.Test.YtblelojdboefjaaGreatCg
import Derived.Test.YtblelojdboefjaaGreatNj
set_option maxRecDepth 100000
set_option linter.unusedVariables false
set_option linter.unusedSimpArgs false
namespace Go.Proofs.YtblelojdboefjaaGreat.R
open Go

/-- The record at an address. -/
def recAtN (c : TChip) (a : Nat) : Option PRec := match pageB c (a / 8) (a % 8) with
  | some x => getR x
  | none => none
theorem getR_nil : getR [] = none := rfl
theorem recAt_ok (n : Nat) (hn : Big + 5 ≤ n) (l : TLog) (hl : l.ok) (a : Nat) (ha : a ≤ 9223372036854775807) : pcall env n 25 [.c .agg (l.pv.map argC'), .c .one [.sh false (.i .i64 (a : Nat))]] [] = some ⟨tupR (recCs (recAtN l.D.C a)), []⟩ := by
  refine walk (fn := Tryz.f25) (d := 4) hn rfl rfl rfl (Nat.le_of_ble_eq_true rfl) fun m hd => ?_
  unfold Tryz.f25
  have hr := readI_ok m (hd (by decide)) l.D.C hl.D.C (a / 8) (a % 8) (by omega) (by omega)
  have g1 : ((a : Int) < 0) = False := by simp
  have w1 : IntKind.i64.wrap ((a : Int).tdiv 8) = ((a / 8 : Nat) : Int) := by
    rw [show (a : Int).tdiv 8 = ((a / 8 : Nat) : Int) from rfl, wrap_in (by omega) (by omega)]
  have e1 : (a : Int).tmod 8 = ((a % 8 : Nat) : Int) := rfl
  have hb : Bd = 1048576 := rfl
  simp only [go_sem] at hr
  unfold recAtN
  cases hp : pageB l.D.C (a / 8) (a % 8) with
  | none =>
    simp only [hp, tup2, pgCs] at hr
    simp only [go_sem, Nat.reduceLT, Nat.reduceAdd, Nat.reduceSub, Nat.reduceEqDiff, Nat.reduceLeDiff, Int.reduceEq, Int.reduceBEq, Int.reduceBNe, Int.reduceNeg, UInt8.reduceToNat, Nat.reduceBEq, g1, w1, e1, hr, tupR, recCs]
  | some x =>
    have hx := pageB_le hl.D.C hp
    have hg := getRecI_ok m (hd (by decide)) x (by omega)
    simp only [hp, tup2, pgCs] at hr
    cases hG : getR x <;> simp only [hG, tupR, recCs] at hg
    all_goals
      simp only [go_sem, Nat.reduceLT, Nat.reduceAdd, Nat.reduceSub, Nat.reduceEqDiff, Nat.reduceLeDiff, Int.reduceEq, Int.reduceBEq, Int.reduceBNe, Int.reduceNeg, UInt8.reduceToNat, Nat.reduceBEq, g1, w1, e1, hr, hg, hG, tupR, recCs]
def okA (c : TChip) (a : Int) : Bool := (recAtN c a.toNat).isSome
def readsB (c : TChip) (l : List Int) : Bool := l.all (okA c)
theorem readsB_bad {c : TChip} {l : List Int} {j : Nat} {a : Int} (hx : l[j]? = some a) (h : okA c a = false) : readsB c l = false := by
  unfold readsB
  rw [List.all_eq_false]
  exact ⟨a, List.mem_of_getElem? hx, by simp [h]⟩
theorem readsB_all {c : TChip} {l : List Int} (h : ∀ i, i < l.length → ∀ a, l[i]? = some a → okA c a = true) : readsB c l = true := by
  unfold readsB
  rw [List.all_eq_true]
  intro a ha
  obtain ⟨i, hi⟩ := List.getElem?_of_mem ha
  exact h i (List.getElem?_eq_some_iff.1 hi).1 a hi
theorem all_inR {x : TImage} (hx : x.ok) : ∀ z ∈ allL x, inR z := by
  intro z hz
  rw [← all_mem] at hz
  unfold rowsA mapsA at hz
  rw [List.take_length, List.take_length] at hz
  simp only [List.mem_append, List.mem_cons, List.not_mem_nil, or_false, List.mem_map, List.mem_flatten] at hz
  rcases hz with ((rfl | rfl) | ⟨r, hr, rfl⟩) | ⟨l, ⟨p, hp, rfl⟩, hz⟩
  · exact hx.Root
  · exact hx.At
  · exact (hx.T.Rows.1 r hr).Map
  · obtain ⟨q, hq, rfl⟩ := List.mem_map.1 hz
    exact ((hx.Maps.1 p hp).Places.1 q hq).Addr
theorem live_some {x : TImage} (hx : x.ok) {l : List Int} (hK : KeptL ([x.Root, x.At] ++ rowsA x x.T.Rows.length ++ mapsA x x.Maps.length) l) {z : Int} (hz : z ∈ l) : ∃ a : Nat, z = (a : Int) ∧ a ≤ 9223372036854775807 := by
  obtain ⟨h1, h2⟩ := (hK.2 z).1 hz
  have h3 := all_inR hx z ((all_mem x z).1 h1)
  exact ⟨z.toNat, by omega, by have := h3.2; omega⟩
theorem kept_live (x : TImage) : KeptL ([x.Root, x.At] ++ rowsA x x.T.Rows.length ++ mapsA x x.Maps.length) (liveL x) :=
  ⟨(liveL_kept x).1, fun z => by rw [(liveL_kept x).2 z, all_mem]⟩
theorem mapsA_le {x : TImage} (hx : x.ok) : ([x.Root, x.At] ++ rowsA x x.T.Rows.length ++ mapsA x x.Maps.length).length ≤ 4398046511104 := by
  have h1 := mapsA_bd hx (Nat.le_refl _)
  have h2 := hx.T.Rows.2
  have hb : Bd = 1048576 := rfl
  simp only [List.length_append, List.length_cons, List.length_nil, rowsA, List.length_map, List.length_take]
  omega
theorem readsI_ok (n : Nat) (hn : Big + 6 ≤ n) (x : TEng) (hx : x.ok) : pcall env n 11 [.c .agg (x.pv.map argC')] [] = some ⟨.c .one [.sh false (.b (readsB x.L.D.C (liveL x.M)))], []⟩ := by
  refine walk (fn := Tryz.f11) (d := 5) hn rfl rfl rfl (Nat.le_of_ble_eq_true rfl) fun m hd => ?_
  unfold Tryz.f11
  obtain ⟨c, hc, h⟩ := liveI_ok m (hd (by decide)) x.M hx.M
  have hK := kept_live x.M
  have hle := Nat.le_trans hK.len (mapsA_le hx.M)
  have hrec := fun a ha => recAt_ok m (hd (by decide)) x.L hx.L a ha
  simp only [go_sem] at h hrec
  generalize liveL x.M = l at hc hK hle ⊢
  rcases hc with hc | hc
  all_goals
    simp only [go_sem, Nat.reduceLT, Nat.reduceAdd, Nat.reduceSub, Nat.reduceEqDiff, Nat.reduceLeDiff, Int.reduceEq, Int.reduceBEq, Int.reduceBNe, Int.reduceNeg, UInt8.reduceToNat, Nat.reduceBEq, h, hc]
    refine wq_each l (fun j => slots 25 [(1, .c .box (x.pv.map argC')), (9, .c .one [c]), (10, .c .one [.sh false (.i .i64 (l.length : Nat))]), (11, .c .one [.sh false (.i .i64 (j : Nat))])]) (fun j => ∀ i, i < j → ∀ a, l[i]? = some a → okA x.L.D.C a = true) (hd (Nat.zero_le _)) (by omega) ?_ (fun j z hz hm hj h1 hw hI => ?_) (fun hI => ?_)
    · subst hc; simp only [go_sem, Nat.reduceLT, Nat.reduceAdd, Nat.reduceSub, Nat.reduceEqDiff, Nat.reduceLeDiff, Int.reduceEq, Int.reduceBEq, Int.reduceBNe, Int.reduceNeg, UInt8.reduceToNat, Nat.reduceBEq]; exact fin rfl (fun i hi => absurd hi (Nat.not_lt_zero _))
    · subst hc
      obtain ⟨a, rfl, ha⟩ := live_some hx.M hK hm
      have hr := hrec a ha
      cases hG : recAtN x.L.D.C a with
      | none =>
        simp only [hG, tupR, recCs] at hr
        rw [readsB_bad hz (by simp [okA, hG])]
        simp only [go_sem, Nat.reduceLT, Nat.reduceAdd, Nat.reduceSub, Nat.reduceEqDiff, Nat.reduceLeDiff, Int.reduceEq, Int.reduceBEq, Int.reduceBNe, Int.reduceNeg, UInt8.reduceToNat, Nat.reduceBEq, h1, hz, hr]
      | some r =>
        simp only [hG, tupR, recCs] at hr
        simp only [go_sem, Nat.reduceLT, Nat.reduceAdd, Nat.reduceSub, Nat.reduceEqDiff, Nat.reduceLeDiff, Int.reduceEq, Int.reduceBEq, Int.reduceBNe, Int.reduceNeg, UInt8.reduceToNat, Nat.reduceBEq, h1, hz, hr, hw]
        refine fin rfl fun i hi b hb => ?_
        rcases Nat.lt_succ_iff_lt_or_eq.1 hi with h2 | rfl
        · exact hI i h2 b hb
        · rw [hz] at hb; injection hb with hb; subst hb; simp [okA, hG]
    · subst hc
      rw [readsB_all hI]
      simp only [go_sem, Nat.reduceLT, Nat.reduceAdd, Nat.reduceSub, Nat.reduceEqDiff, Nat.reduceLeDiff, Int.reduceEq, Int.reduceBEq, Int.reduceBNe, Int.reduceNeg, UInt8.reduceToNat, Nat.reduceBEq]
theorem readsS_ok (n : Nat) (hn : Big + 6 ≤ n) (x : TEng) (hx : x.ok) : pcall env n 10 [.c .agg (x.pv.map argC')] [] = some ⟨.c .one [.sh false (.b (readsB x.L.D.C (liveL x.M)))], []⟩ := by
  refine walk (fn := Tryz.f10) (d := 5) hn rfl rfl rfl (Nat.le_of_ble_eq_true rfl) fun m hd => ?_
  unfold Tryz.f10
  obtain ⟨c, l, hc, hK, h⟩ := liveS_ok m (hd (by decide)) x.M hx.M
  have hle := Nat.le_trans hK.len (mapsA_le hx.M)
  have e0 : readsB x.L.D.C (liveL x.M) = readsB x.L.D.C l := by
    unfold readsB
    exact ((hK.perm (liveL_kept x.M) (all_mem x.M)).all_eq).symm
  have hb : Bd = 1048576 := rfl
  have hrp := fun i j h1 h2 => readS_ok m (hd (by decide)) x.L.D.C hx.L.D.C i j h1 h2
  have hrg := fun b h => getRecS_ok m (hd (by decide)) b h
  rw [e0]
  simp only [go_sem] at h hrp
  rcases hc with hc | hc
  all_goals
    simp only [go_sem, Nat.reduceLT, Nat.reduceAdd, Nat.reduceSub, Nat.reduceEqDiff, Nat.reduceLeDiff, Int.reduceEq, Int.reduceBEq, Int.reduceBNe, Int.reduceNeg, UInt8.reduceToNat, Nat.reduceBEq, h, hc]
    refine wq_each l (fun j => slots 47 [(1, .c .box (x.pv.map argC')), (3, .c .one [c]), (4, .c .one [.sh false (.i .i64 (j : Nat))])]) (fun j => ∀ i, i < j → ∀ a, l[i]? = some a → okA x.L.D.C a = true) (hd (Nat.zero_le _)) (by omega) ?_ (fun j z hz hm hj h1 hw hI => ?_) (fun hI => ?_)
    · subst hc; simp only [go_sem, Nat.reduceLT, Nat.reduceAdd, Nat.reduceSub, Nat.reduceEqDiff, Nat.reduceLeDiff, Int.reduceEq, Int.reduceBEq, Int.reduceBNe, Int.reduceNeg, UInt8.reduceToNat, Nat.reduceBEq]; exact fin rfl (fun i hi => absurd hi (Nat.not_lt_zero _))
    · subst hc
      obtain ⟨a, rfl, ha⟩ := live_some hx.M hK hm
      have w1 : IntKind.i64.wrap ((a : Int).tdiv 8) = ((a / 8 : Nat) : Int) := by
        rw [show (a : Int).tdiv 8 = ((a / 8 : Nat) : Int) from rfl, wrap_in (by omega) (by omega)]
      have e1 : (a : Int).tmod 8 = ((a % 8 : Nat) : Int) := rfl
      have hr := hrp (a / 8) (a % 8) (by omega) (by omega)
      cases hp : pageB x.L.D.C (a / 8) (a % 8) with
      | none =>
        have hg := hrg [] (by simp)
        simp only [getR_nil, List.map_nil, tupR, recCs] at hg
        simp only [hp, tup2, pgCs] at hr
        rw [readsB_bad hz (by simp [okA, recAtN, hp])]
        simp only [go_sem, Nat.reduceLT, Nat.reduceAdd, Nat.reduceSub, Nat.reduceEqDiff, Nat.reduceLeDiff, Int.reduceEq, Int.reduceBEq, Int.reduceBNe, Int.reduceNeg, UInt8.reduceToNat, Nat.reduceBEq, h1, hz, w1, e1, hr, hg]
        exact chk1 (by kernel_rfl)
      | some y =>
        have hy := pageB_le hx.L.D.C hp
        have hg := hrg y (by omega)
        simp only [hp, tup2, pgCs] at hr
        cases hG : getR y with
        | none =>
          simp only [hG, tupR, recCs] at hg
          rw [readsB_bad hz (by simp [okA, recAtN, hp, hG])]
          simp only [go_sem, Nat.reduceLT, Nat.reduceAdd, Nat.reduceSub, Nat.reduceEqDiff, Nat.reduceLeDiff, Int.reduceEq, Int.reduceBEq, Int.reduceBNe, Int.reduceNeg, UInt8.reduceToNat, Nat.reduceBEq, h1, hz, w1, e1, hr, hg]
          exact chk1 (by kernel_rfl)
        | some r =>
          simp only [hG, tupR, recCs] at hg
          simp only [go_sem, Nat.reduceLT, Nat.reduceAdd, Nat.reduceSub, Nat.reduceEqDiff, Nat.reduceLeDiff, Int.reduceEq, Int.reduceBEq, Int.reduceBNe, Int.reduceNeg, UInt8.reduceToNat, Nat.reduceBEq, h1, hz, w1, e1, hr, hg]
          refine chk (by kernel_rfl) ?_
          simp only [go_sem, Nat.reduceLT, Nat.reduceAdd, Nat.reduceSub, Nat.reduceEqDiff, Nat.reduceLeDiff, Int.reduceEq, Int.reduceBEq, Int.reduceBNe, Int.reduceNeg, UInt8.reduceToNat, Nat.reduceBEq, h1, hz, w1, e1, hr, hg, hw]
          refine fin rfl fun i hi b hb => ?_
          rcases Nat.lt_succ_iff_lt_or_eq.1 hi with h2 | rfl
          · exact hI i h2 b hb
          · rw [hz] at hb; injection hb with hb; subst hb; simp [okA, recAtN, hp, hG]
    · subst hc
      rw [readsB_all hI]
      simp only [go_sem, Nat.reduceLT, Nat.reduceAdd, Nat.reduceSub, Nat.reduceEqDiff, Nat.reduceLeDiff, Int.reduceEq, Int.reduceBEq, Int.reduceBNe, Int.reduceNeg, UInt8.reduceToNat, Nat.reduceBEq]
end Go.Proofs.YtblelojdboefjaaGreat.R
