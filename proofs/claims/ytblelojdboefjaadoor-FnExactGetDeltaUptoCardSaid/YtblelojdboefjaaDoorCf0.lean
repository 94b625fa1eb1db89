/- The reference's reader, beside the other. -/
import Derived.Test.YtblelojdboefjaaDoorCd
set_option maxRecDepth 100000
set_option linter.unusedVariables false
set_option linter.unusedSimpArgs false
namespace Go.Proofs.YtblelojdboefjaaDoor.R
open Go

/-- The reference's reader: where it is, and whether something was wrong. -/
def sN (b : List UInt8) (s : Nat × Bool) : Nat × (Nat × Bool) := if s.2 = true then (0, s) else (match getN b s.1 with
  | some (v, q) => (v, (q, false))
  | none => (0, (s.1, true)))
def sT (b : List UInt8) (s : Nat × Bool) : List UInt8 × (Nat × Bool) := if s.2 = true then ([], s) else (match getT b s.1 with
  | some (v, q) => (v, (q, false))
  | none => ([], (s.1, true)))
theorem sN_le {b : List UInt8} {s : Nat × Bool} (h : s.1 ≤ b.length) : (sN b s).2.1 ≤ b.length := by
  unfold sN
  split
  · exact h
  · split
    · rename_i v q e; exact (getN_lt e).2.1
    · exact h
theorem sT_le {b : List UInt8} {s : Nat × Bool} (h : s.1 ≤ b.length) : (sT b s).2.1 ≤ b.length := by
  unfold sT
  split
  · exact h
  · split
    · rename_i v q e; exact (getT_lt e).1
    · exact h
def rdS (fl : Bool) (b : List UInt8) (s : Nat × Bool) : List CV := [.sh fl (.s 1 (b.map bpv)), .sh false (.i .i64 (s.1 : Int)), .sh false (.b s.2)]
theorem numS_ok (n : Nat) (hn : Big + 2 ≤ n) {b : List UInt8} (hb : b.length ≤ 4398046511104) {s : Nat × Bool} (h : s.1 ≤ b.length) (fl : Bool) : pcall env n 40 [.bp 0 0] [rdS fl b s] = some ⟨.c .one [.sh false (.i .i64 (((sN b s).1 : Nat) : Int))], [rdS fl b (sN b s).2]⟩ := by
  refine walk (fn := Tryd.f40) (d := 1) hn rfl rfl rfl (Nat.le_of_ble_eq_true rfl) fun m hd => ?_
  unfold Tryd.f40
  obtain ⟨a, bad⟩ := s
  have hg := getNumS_ok m (hd (by decide)) b hb a h
  cases hr : getN b a <;> simp only [hr, tup3, numCs] at hg <;> cases bad
  all_goals
    simp only [rdS]
    simp only [go_sem, Nat.reduceLT, Nat.reduceAdd, Nat.reduceSub, Nat.reduceEqDiff, Nat.reduceLeDiff, Int.reduceEq, Int.reduceBEq, Int.reduceBNe, Int.reduceNeg, UInt8.reduceToNat, Nat.reduceBEq, hg]
    refine chk (by kernel_rfl) ?_
    simp only [go_sem, Nat.reduceLT, Nat.reduceAdd, Nat.reduceSub, Nat.reduceEqDiff, Nat.reduceLeDiff, Int.reduceEq, Int.reduceBEq, Int.reduceBNe, Int.reduceNeg, UInt8.reduceToNat, Nat.reduceBEq, hg, sN, hr, rdS]
  all_goals rfl
theorem textS_ok (n : Nat) (hn : Big + 3 ≤ n) {b : List UInt8} (hb : b.length ≤ 4398046511104) {s : Nat × Bool} (h : s.1 ≤ b.length) (fl : Bool) : pcall env n 42 [.bp 0 0] [rdS fl b s] = some ⟨.c .one [.sh false (.t (⟨(sT b s).1.toArray⟩))], [rdS fl b (sT b s).2]⟩ := by
  refine walk (fn := Tryd.f42) (d := 2) hn rfl rfl rfl (Nat.le_of_ble_eq_true rfl) fun m hd => ?_
  unfold Tryd.f42
  obtain ⟨a, bad⟩ := s
  have hg := getTextS_ok m (hd (by decide)) b hb a h
  cases hr : getT b a <;> simp only [hr, tup3, txtCs] at hg <;> cases bad
  all_goals
    simp only [rdS]
    simp only [go_sem, Nat.reduceLT, Nat.reduceAdd, Nat.reduceSub, Nat.reduceEqDiff, Nat.reduceLeDiff, Int.reduceEq, Int.reduceBEq, Int.reduceBNe, Int.reduceNeg, UInt8.reduceToNat, Nat.reduceBEq, hg]
    refine chk (by kernel_rfl) ?_
    simp only [go_sem, Nat.reduceLT, Nat.reduceAdd, Nat.reduceSub, Nat.reduceEqDiff, Nat.reduceLeDiff, Int.reduceEq, Int.reduceBEq, Int.reduceBNe, Int.reduceNeg, UInt8.reduceToNat, Nat.reduceBEq, hg, sT, hr, rdS]
  all_goals rfl
/-- The two readers go side by side. -/
def Lk (s t : Nat × Bool) : Prop := s.2 = !t.2 ∧ (s.2 = true → s.1 = t.1)
theorem Lk.num {b : List UInt8} {s t : Nat × Bool} (h : Lk s t) : (sN b t).1 = (rN b s).1 ∧ Lk (rN b s).2 (sN b t).2 := by
  obtain ⟨a, ok⟩ := s
  obtain ⟨a', bad⟩ := t
  cases bad
  · obtain rfl : ok = true := h.1
    obtain rfl : a = a' := h.2 rfl
    simp only [sN, rN, Bool.false_eq_true, if_false, if_true]
    cases getN b a with
    | none => exact ⟨rfl, rfl, fun h => by cases h⟩
    | some r => exact ⟨rfl, rfl, fun _ => rfl⟩
  · obtain rfl : ok = false := h.1
    simp only [sN, rN, Bool.false_eq_true, if_false, if_true]
    exact ⟨trivial, rfl, fun h => by cases h⟩
theorem Lk.text {b : List UInt8} {s t : Nat × Bool} (h : Lk s t) : (sT b t).1 = (rT b s).1 ∧ Lk (rT b s).2 (sT b t).2 := by
  obtain ⟨a, ok⟩ := s
  obtain ⟨a', bad⟩ := t
  cases bad
  · obtain rfl : ok = true := h.1
    obtain rfl : a = a' := h.2 rfl
    simp only [sT, rT, Bool.false_eq_true, if_false, if_true]
    cases getT b a with
    | none => exact ⟨rfl, rfl, fun h => by cases h⟩
    | some r => exact ⟨rfl, rfl, fun _ => rfl⟩
  · obtain rfl : ok = false := h.1
    simp only [sT, rT, Bool.false_eq_true, if_false, if_true]
    exact ⟨trivial, rfl, fun h => by cases h⟩
theorem Lk.done {b : List UInt8} {s t : Nat × Bool} (h : Lk s t) : rD b s = (!t.2 && decide (t.1 = b.length)) := by
  obtain ⟨a, ok⟩ := s
  obtain ⟨a', bad⟩ := t
  cases bad
  · obtain rfl : ok = true := h.1
    obtain rfl : a = a' := h.2 rfl
    rfl
  · obtain rfl : ok = false := h.1
    rfl
theorem Lk.refl (a : Nat) : Lk (a, true) (a, false) := ⟨rfl, fun _ => rfl⟩

/-- A number of some bytes, the greatest first. -/
def unL (l : List UInt8) : Nat := l.foldl (fun v x => v * 256 + x.toNat) 0
theorem unL_take {l : List UInt8} {j : Nat} {x : UInt8} (h : l[j]? = some x) : unL (l.take (j + 1)) = unL (l.take j) * 256 + x.toNat := by
  obtain ⟨hj, e⟩ := List.getElem?_eq_some_iff.1 h
  unfold unL
  rw [List.take_succ_eq_append_getElem hj, e, List.foldl_append]; rfl
theorem unL_lt3 : ∀ (l : List UInt8), l.length ≤ 3 → unL l < 16777216
  | [], _ => by decide
  | [a], _ => by have := a.toNat_lt; simp only [unL, List.foldl]; omega
  | [a, b], _ => by have := a.toNat_lt; have := b.toNat_lt; simp only [unL, List.foldl]; omega
  | [a, b, c], _ => by have := a.toNat_lt; have := b.toNat_lt; have := c.toNat_lt; simp only [unL, List.foldl]; omega
  | _ :: _ :: _ :: _ :: _, h => by simp at h
theorem neN (x y : Nat) : ((x : Int) != (y : Int)) = !decide (x = y) := by
  by_cases h : x = y
  · subst h; simp
  · have : (x : Int) ≠ y := by omega
    simp [h, this]
theorem unL_un4 {l : List UInt8} (h : l.length = 4) : unL l = un4 l := by
  match l, h with
  | [a, b, c, d], _ => simp only [unL, List.foldl, un4]; omega
theorem or8 {v y : Nat} (hv : v < 16777216) (hy : y < 256) : orI .i64 ((v * 256 : Nat) : Int) (y : Int) = ((v * 256 + y : Nat) : Int) := by
  unfold orI
  rw [bits_or (w := IntKind.i64.bits) (Nat.lt_trans (show v * 256 < 4294967296 by omega) (by decide)) (Nat.lt_trans hy (by decide))]
  have : v * 256 ||| y = v * 256 + y := by
    rw [show v * 256 = v <<< 8 by rw [Nat.shiftLeft_eq]]
    exact (Nat.shiftLeft_add_eq_or_of_lt (i := 8) hy v).symm
  rw [this, wrap_in (by omega) (by omega)]
theorem openB_iff {b : List UInt8} (h : 4 ≤ b.length) : openB b = if unL (b.drop (b.length - 4)) = crcN (b.take (b.length - 4)) then some (b.take (b.length - 4)) else none := by
  have hl : (b.drop (b.length - 4)).length = 4 := by rw [List.length_drop]; omega
  unfold openB
  rw [unL_un4 hl]
  by_cases h1 : b.drop (b.length - 4) = be4 (crcN (b.take (b.length - 4)))
  · rw [if_pos ⟨h, h1⟩, if_pos (by rw [h1, un4_be4 (crcN_lt _)])]
  · rw [if_neg fun h2 => h1 h2.2, if_neg fun h2 => h1 (by rw [← h2, be4_un4 hl])]
end Go.Proofs.YtblelojdboefjaaDoor.R
