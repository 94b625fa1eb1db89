/- The other program's reading of a difference. -/
import Derived.Test.YtblelojdboefjaaDoorGe
import Derived.Test.YtblelojdboefjaaDoorGd
set_option maxRecDepth 100000
set_option linter.unusedVariables false
set_option linter.unusedSimpArgs false
namespace Go.Proofs.YtblelojdboefjaaDoor.R
open Go

theorem repB_mem {α : Type} {f : RSt → α × RSt} {y : α} : ∀ {k s}, y ∈ (repB f k s).1 → ∃ w, y = (f w).1
  | 0, s, h => by simp [repB] at h
  | k + 1, s, h => by
    simp only [repB] at h
    split at h
    · exact repB_mem h
    · simp only [List.mem_append, List.mem_singleton] at h
      rcases h with h | h
      · exact repB_mem h
      · exact ⟨_, h⟩
section
variable {x : List UInt8}
theorem sN_bd (s : RSt) : (sN x s).1 ≤ 1000000 := by
  unfold sN
  split
  · exact Nat.zero_le _
  · split
    · rename_i v q e; exact (getN_lt e).1
    · exact Nat.zero_le _
theorem sN_inR (s : RSt) : inR ((sN x s).1 : Int) := by
  have := sN_bd (x := x) s
  unfold inR
  omega
variable (hx : x.length ≤ Bd)
include hx
theorem sT_bd (s : RSt) : (sT x s).1.length ≤ Bd := by
  unfold sT
  split
  · exact Nat.zero_le _
  · split
    · rename_i v q e; have h1 := getT_lt e; show v.length ≤ Bd; omega
    · exact Nat.zero_le _
theorem sS_ok (s : RSt) : okS (sS x s).1 := sT_bd hx s
theorem sA_ok (s : RSt) : (∀ y ∈ (sA x s).1, TAttr.ok y) ∧ (sA x s).1.length ≤ Bd := by
  refine ⟨fun y hy => ?_, ?_⟩
  · obtain ⟨w, rfl⟩ := repB_mem (show y ∈ (repB (sA1 x) (min (sN x s).1 5) (sN x s).2).1 from hy)
    exact ⟨sS_ok hx w, sS_ok hx _⟩
  · have := (repB_len (f := sA1 x) (k := min (sN x s).1 5) (s := (sN x s).2)).1
    have hb : Bd = 1048576 := rfl
    show (repB (sA1 x) (min (sN x s).1 5) (sN x s).2).1.length ≤ Bd
    omega
theorem sE_ok (s : RSt) : TEntry.ok (sE x s).1 := ⟨sS_ok hx _, sN_inR _, ⟨fun _ _ => trivial, sT_bd hx _⟩, sA_ok hx _, sS_ok hx _⟩
theorem sDel_ok (s : RSt) : TDelta.ok (sDel x s).1 := by
  have hb : Bd = 1048576 := rfl
  refine ⟨sA_ok hx s, ⟨fun y hy => ?_, ?_⟩, ⟨fun y hy => ?_, ?_⟩⟩
  · obtain ⟨w, rfl⟩ := repB_mem (show y ∈ (sG x (sA x s).2).2.1 from hy)
    exact sS_ok hx w
  · have := (repB_len (f := sS x) (k := min (sN x (sA x s).2).1 201) (s := (sN x (sA x s).2).2)).1
    show (repB (sS x) (min (sN x (sA x s).2).1 201) (sN x (sA x s).2).2).1.length ≤ Bd
    omega
  · obtain ⟨w, rfl⟩ := repB_mem (show y ∈ (sF x (sG x (sA x s).2).2.2).2.1 from hy)
    exact sE_ok hx w
  · have := (repB_len (f := sE x) (k := min (sN x (sG x (sA x s).2).2.2).1 201) (s := (sN x (sG x (sA x s).2).2.2).2)).1
    show (repB (sE x) (min (sN x (sG x (sA x s).2).2.2).1 201) (sN x (sG x (sA x s).2).2.2).2).1.length ≤ Bd
    omega
end
/-- What it answers, of bytes x behind which D stand. -/
def getDS (x D : List UInt8) : Option TDelta :=
  let v := sN x (0, false)
  let t : RSt := (v.2.1, !decide (v.1 = 7) || !decide (unL D = crcN x))
  if okS' x t = true then some (sDel x t).1 else none
theorem okS_bad {x : List UInt8} {t : RSt} (h : t.2 = true) : okS' x t = false := by
  have : (sDel x t).2.2.2 = true := repB_bad (sd_N.no _ (repB_bad (sd_N.no _ (sA_no h))))
  simp only [okS', this, Bool.not_true, Bool.false_and]
theorem getD_eq {b : List UInt8} (h4 : 4 ≤ b.length) (hl : b.length ≤ 20000) : getDI b = getDS (b.take (b.length - 4)) (b.drop (b.length - 4)) := by
  have ho := openB_iff h4
  obtain ⟨x, hx⟩ : ∃ x, b.take (b.length - 4) = x := ⟨_, rfl⟩
  obtain ⟨D, hD⟩ : ∃ D, b.drop (b.length - 4) = D := ⟨_, rfl⟩
  rw [hx, hD] at ho ⊢
  by_cases hc : unL D = crcN x
  · rw [if_pos hc] at ho
    have hs : srcI b = (x, true) := by
      unfold srcI
      rw [ho]
      simp only [decide_eq_true (show (b.length : Int) ≤ 20000 by omega)]
    have hk := (Lk.refl 0).num (b := x)
    unfold getDI getDS
    simp only [hs]
    rw [hk.1]
    by_cases h7 : (rN x (0, true)).1 = 7
    · have hok : (rN x (0, true)).2.2 = true := by
        cases e : (rN x (0, true)).2.2 with
        | true => rfl
        | false =>
          exfalso
          unfold rN at e h7
          simp only [if_true] at e h7
          cases e2 : getN x 0 with
          | none => rw [e2] at h7; simp at h7
          | some r => rw [e2] at e; simp at e
      have hb : (sN x (0, false)).2.2 = false := by
        have := hk.2.1
        rw [hok] at this
        cases e : (sN x (0, false)).2.2 with
        | false => rfl
        | true => rw [e] at this; cases this
      have ht : ((sN x (0, false)).2.1, !decide ((rN x (0, true)).1 = 7) || !decide (unL D = crcN x)) = (sN x (0, false)).2 := by
        rw [h7, hc]
        simp only [decide_true, Bool.not_true, Bool.or_self]
        exact Prod.ext rfl hb.symm
      rw [ht]
      have hp := par_Del (x := x) hk.2 (rN_le (Nat.zero_le _))
      by_cases hg : okI x (rN x (0, true)).2 = true
      · rw [if_pos ⟨h7, hg⟩, if_pos (by rw [← hp.1]; exact hg), hp.2 hg]
      · rw [if_neg fun h => hg h.2, if_neg fun h => hg (by rw [hp.1]; exact h)]
    · rw [if_neg fun h => h7 h.1, if_neg]
      rw [okS_bad (by rw [decide_eq_false h7]; rfl)]
      decide
  · rw [if_neg hc] at ho
    have hs : srcI b = ([], false) := by unfold srcI; rw [ho]
    have h1 : getDI b = none := by
      unfold getDI
      rw [hs, if_neg]
      intro h
      exact absurd h.1 (by decide)
    rw [h1]
    unfold getDS
    simp only
    rw [okS_bad (by rw [decide_eq_false hc]; simp)]
    rfl
theorem getDI_no {b : List UInt8} (h : b.length < 4 ∨ 20000 < b.length) : getDI b = none := by
  unfold getDI
  rw [if_neg]
  intro h2
  have h7 := h2.1
  have hn : (srcI b).2 = false := by
    unfold srcI
    cases e : openB b with
    | none => rfl
    | some x =>
      rcases h with h | h
      · unfold openB at e
        rw [if_neg (fun h2 => by omega)] at e
        cases e
      · simp only
        exact decide_eq_false (by omega)
  rw [hn] at h7
  unfold rN at h7
  simp at h7
end Go.Proofs.YtblelojdboefjaaDoor.R
