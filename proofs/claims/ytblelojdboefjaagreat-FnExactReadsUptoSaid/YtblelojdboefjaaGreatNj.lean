/- NeedOf of both sides. -/
import Derived.Test.YtblelojdboefjaaGreatNi
set_option maxRecDepth 100000
set_option linter.unusedVariables false
set_option linter.unusedSimpArgs false
namespace Go.Proofs.YtblelojdboefjaaGreat.R
open Go

theorem sqF_ord : ∀ (l : List Int) (a : Int), (a :: l).Pairwise (· ≤ ·) → (a :: squeezeFrom a l).Pairwise (· < ·) ∧ ∀ z, z ∈ a :: squeezeFrom a l ↔ z ∈ a :: l
  | [], a, _ => ⟨by simp [squeezeFrom], fun z => by simp [squeezeFrom]⟩
  | y :: l, a, h => by
    obtain ⟨h1, h2⟩ := List.pairwise_cons.1 h
    unfold squeezeFrom
    split
    · rename_i e
      subst e
      obtain ⟨g1, g2⟩ := sqF_ord l y h2
      exact ⟨g1, fun z => by rw [g2 z]; simp⟩
    · rename_i e
      obtain ⟨g1, g2⟩ := sqF_ord l y h2
      have hay : a < y := by have := h1 y (by simp); omega
      refine ⟨List.pairwise_cons.2 ⟨fun z hz => ?_, g1⟩, fun z => by rw [List.mem_cons, g2 z, List.mem_cons (a := z) (b := a)]⟩
      rcases List.mem_cons.1 hz with rfl | hz
      · exact hay
      · exact Int.lt_trans hay ((List.pairwise_cons.1 g1).1 z hz)
theorem sq_ord {l : List Int} (h : l.Pairwise (· ≤ ·)) : (squeeze l).Nodup ∧ ∀ z, z ∈ squeeze l ↔ z ∈ l := by
  cases l with
  | nil => exact ⟨List.nodup_nil, fun z => by simp [squeeze]⟩
  | cons a l =>
    obtain ⟨g1, g2⟩ := sqF_ord l a h
    exact ⟨g1.imp fun {x y} hxy => by omega, g2⟩
theorem sortInts_ord (l : List Int) : (sortInts l).Pairwise (· ≤ ·) := by
  have := sortBy_ord (le := fun x y : Int => decide (x ≤ y)) (fun a b c h1 h2 => by simp only [decide_eq_true_eq] at h1 h2 ⊢; omega) (fun a b => by simp only [Bool.or_eq_true, decide_eq_true_eq]; omega) l
  exact this.imp fun h => by simpa using h
theorem liveL_kept (x : TImage) : KeptL (allL x) (liveL x) := by
  obtain ⟨h1, h2⟩ := sq_ord (sortInts_ord (allL x))
  have hp := sortBy_perm (fun x y : Int => decide (x ≤ y)) (allL x)
  refine ⟨h1.filter _, fun z => ?_⟩
  unfold liveL keepL
  rw [List.mem_filter, h2 z]
  have : z ∈ sortInts (allL x) ↔ z ∈ allL x := hp.mem_iff
  rw [this]
  simp
theorem all_mem (x : TImage) (z : Int) : z ∈ [x.Root, x.At] ++ rowsA x x.T.Rows.length ++ mapsA x x.Maps.length ↔ z ∈ allL x := by
  unfold allL rowsA mapsA
  rw [List.take_length, List.take_length]
  simp only [List.mem_append, List.mem_flatten, List.mem_cons, List.not_mem_nil, or_false, List.mem_map, List.flatten_append]
  have key : (∃ l, l ∈ leadG x x.T.Rows.length x.Maps.length ∧ z ∈ l) ↔ (∃ r, r ∈ x.T.Rows ∧ r.Map = z) ∨ ∃ l, (∃ p, p ∈ x.Maps ∧ p.Places.map TPlace.Addr = l) ∧ z ∈ l := by
    constructor
    · rintro ⟨l, hl, hz⟩
      unfold leadG at hl
      obtain ⟨i, _, rfl⟩ := List.mem_map.1 hl
      rcases List.mem_append.1 hz with hz | hz
      · left
        split at hz
        · unfold byRow at hz
          split at hz
          · rename_i r e
            exact ⟨r, List.mem_of_getElem? e, (List.mem_singleton.1 hz).symm⟩
          · simp at hz
        · simp at hz
      · right
        split at hz
        · unfold byMap at hz
          split at hz
          · rename_i p e
            exact ⟨_, ⟨p, List.mem_of_getElem? e, rfl⟩, hz⟩
          · simp at hz
        · simp at hz
    · rintro (⟨r, hr, rfl⟩ | ⟨_, ⟨p, hp, rfl⟩, hz⟩)
      · obtain ⟨i, hi⟩ := List.getElem?_of_mem hr
        have hlt := (List.getElem?_eq_some_iff.1 hi).1
        refine ⟨_, List.mem_map.2 ⟨i, List.mem_range.2 (by omega), rfl⟩, List.mem_append.2 (.inl ?_)⟩
        rw [if_pos hlt]
        simp [byRow, hi]
      · obtain ⟨i, hi⟩ := List.getElem?_of_mem hp
        have hlt := (List.getElem?_eq_some_iff.1 hi).1
        refine ⟨_, List.mem_map.2 ⟨i, List.mem_range.2 (by omega), rfl⟩, List.mem_append.2 (.inr ?_)⟩
        rw [if_pos hlt]
        simpa [byMap, hi] using hz
  rw [key]
  constructor
  · rintro ((h | h) | h)
    · exact .inr ⟨_, rfl, by simpa using h⟩
    · exact .inl (.inl h)
    · exact .inl (.inr h)
  · rintro ((h | h) | ⟨l, hl, hz⟩)
    · exact .inl (.inr h)
    · exact .inr h
    · refine .inl (.inl ?_)
      subst hl
      simpa using hz

/-- How many addresses an image needs. -/
def needN (x : TEng) : Int := ((liveL x.M).length : Nat)
theorem needI_ok (n : Nat) (hn : Big + 6 ≤ n) (x : TEng) (hx : x.ok) : pcall env n 8 [.c .agg (x.pv.map argC')] [] = some ⟨pvSV (.i .i64 (needN x)), []⟩ := by
  obtain ⟨m, rfl⟩ := ex_pred hn
  obtain ⟨c, hc, h⟩ := liveI_ok m (deep hn (by decide)) x.M hx.M
  simp only [go_sem] at h
  refine wq_eq (wq_pcall (fn := Tryz.f8) rfl rfl rfl (Nat.le_of_ble_eq_true rfl) ?_)
  unfold Tryz.f8
  rcases hc with rfl | rfl
  all_goals simp only [go_sem, Nat.reduceLT, Nat.reduceAdd, Nat.reduceSub, Nat.reduceEqDiff, Nat.reduceLeDiff, Int.reduceEq, Int.reduceBEq, Int.reduceBNe, Int.reduceNeg, UInt8.reduceToNat, Nat.reduceBEq, h, needN]
theorem needS_ok (n : Nat) (hn : Big + 6 ≤ n) (x : TEng) (hx : x.ok) : pcall env n 6 [.c .agg (x.pv.map argC')] [] = some ⟨pvSV (.i .i64 (needN x)), []⟩ := by
  obtain ⟨m, rfl⟩ := ex_pred hn
  obtain ⟨c, out, hc, hK, h⟩ := liveS_ok m (deep hn (by decide)) x.M hx.M
  have hl : out.length = (liveL x.M).length := (hK.perm (liveL_kept x.M) (all_mem x.M)).length_eq
  simp only [go_sem] at h
  refine wq_eq (wq_pcall (fn := Tryz.f6) rfl rfl rfl (Nat.le_of_ble_eq_true rfl) ?_)
  unfold Tryz.f6
  rcases hc with rfl | rfl
  all_goals simp only [go_sem, Nat.reduceLT, Nat.reduceAdd, Nat.reduceSub, Nat.reduceEqDiff, Nat.reduceLeDiff, Int.reduceEq, Int.reduceBEq, Int.reduceBNe, Int.reduceNeg, UInt8.reduceToNat, Nat.reduceBEq, h, needN, hl]
end Go.Proofs.YtblelojdboefjaaGreat.R
