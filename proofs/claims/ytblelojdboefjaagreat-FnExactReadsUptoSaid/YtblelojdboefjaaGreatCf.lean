/- Records, as the reference reads them. -/
import Derived.Test.YtblelojdboefjaaGreatCe
set_option maxRecDepth 100000
set_option linter.unusedVariables false
set_option linter.unusedSimpArgs false
namespace Go.Proofs.YtblelojdboefjaaGreat.R
open Go

/-- The reference's reader: where it is, and whether something was wrong. -/
def sN (b : List UInt8) (s : Nat × Bool) : Nat × (Nat × Bool) := if s.2 = true then (0, s) else (match getN b s.1 with
  | some (v, q) => (v, (q, false))
  | none => (0, (s.1, true)))
def sT (b : List UInt8) (s : Nat × Bool) : List UInt8 × (Nat × Bool) := if s.2 = true then ([], s) else (match getT b s.1 with
  | some (v, q) => (v, (q, false))
  | none => ([], (s.1, true)))
theorem sN_le {b : List UInt8} {s : Nat × Bool} (h : s.1 ≤ b.length) : (sN b s).2.1 ≤ b.length := by
  unfold sN
  split
  · exact h
  · split
    · rename_i v q e; exact (getN_lt e).2.1
    · exact h
theorem sT_le {b : List UInt8} {s : Nat × Bool} (h : s.1 ≤ b.length) : (sT b s).2.1 ≤ b.length := by
  unfold sT
  split
  · exact h
  · split
    · rename_i v q e; exact (getT_lt e).1
    · exact h
def rdS (fl : Bool) (b : List UInt8) (s : Nat × Bool) : List CV := [.sh fl (.s 1 (b.map bpv)), .sh false (.i .i64 (s.1 : Int)), .sh false (.b s.2)]
theorem numS_ok (n : Nat) (hn : Big + 2 ≤ n) {b : List UInt8} (hb : b.length ≤ 4398046511104) {s : Nat × Bool} (h : s.1 ≤ b.length) (fl : Bool) : pcall env n 45 [.bp 0 0] [rdS fl b s] = some ⟨.c .one [.sh false (.i .i64 (((sN b s).1 : Nat) : Int))], [rdS fl b (sN b s).2]⟩ := by
  refine walk (fn := Tryz.f45) (d := 1) hn rfl rfl rfl (Nat.le_of_ble_eq_true rfl) fun m hd => ?_
  unfold Tryz.f45
  obtain ⟨a, bad⟩ := s
  have hg := getNumS_ok m (hd (by decide)) b hb a h
  cases hr : getN b a <;> simp only [hr, tup3, numCs] at hg <;> cases bad
  all_goals
    simp only [rdS]
    simp only [go_sem, Nat.reduceLT, Nat.reduceAdd, Nat.reduceSub, Nat.reduceEqDiff, Nat.reduceLeDiff, Int.reduceEq, Int.reduceBEq, Int.reduceBNe, Int.reduceNeg, UInt8.reduceToNat, Nat.reduceBEq, hg]
    refine chk (by kernel_rfl) ?_
    simp only [go_sem, Nat.reduceLT, Nat.reduceAdd, Nat.reduceSub, Nat.reduceEqDiff, Nat.reduceLeDiff, Int.reduceEq, Int.reduceBEq, Int.reduceBNe, Int.reduceNeg, UInt8.reduceToNat, Nat.reduceBEq, hg, sN, hr, rdS]
  all_goals rfl
theorem textS_ok (n : Nat) (hn : Big + 3 ≤ n) {b : List UInt8} (hb : b.length ≤ 4398046511104) {s : Nat × Bool} (h : s.1 ≤ b.length) (fl : Bool) : pcall env n 46 [.bp 0 0] [rdS fl b s] = some ⟨.c .one [.sh false (.t (⟨(sT b s).1.toArray⟩))], [rdS fl b (sT b s).2]⟩ := by
  refine walk (fn := Tryz.f46) (d := 2) hn rfl rfl rfl (Nat.le_of_ble_eq_true rfl) fun m hd => ?_
  unfold Tryz.f46
  obtain ⟨a, bad⟩ := s
  have hg := getTextS_ok m (hd (by decide)) b hb a h
  cases hr : getT b a <;> simp only [hr, tup3, txtCs] at hg <;> cases bad
  all_goals
    simp only [rdS]
    simp only [go_sem, Nat.reduceLT, Nat.reduceAdd, Nat.reduceSub, Nat.reduceEqDiff, Nat.reduceLeDiff, Int.reduceEq, Int.reduceBEq, Int.reduceBNe, Int.reduceNeg, UInt8.reduceToNat, Nat.reduceBEq, hg]
    refine chk (by kernel_rfl) ?_
    simp only [go_sem, Nat.reduceLT, Nat.reduceAdd, Nat.reduceSub, Nat.reduceEqDiff, Nat.reduceLeDiff, Int.reduceEq, Int.reduceBEq, Int.reduceBNe, Int.reduceNeg, UInt8.reduceToNat, Nat.reduceBEq, hg, sT, hr, rdS]
  all_goals rfl
/-- The two readers go side by side. -/
def Lk (s t : Nat × Bool) : Prop := s.2 = !t.2 ∧ (s.2 = true → s.1 = t.1)
theorem Lk.num {b : List UInt8} {s t : Nat × Bool} (h : Lk s t) : (sN b t).1 = (rN b s).1 ∧ Lk (rN b s).2 (sN b t).2 := by
  obtain ⟨a, ok⟩ := s
  obtain ⟨a', bad⟩ := t
  cases bad
  · obtain rfl : ok = true := h.1
    obtain rfl : a = a' := h.2 rfl
    simp only [sN, rN, Bool.false_eq_true, if_false, if_true]
    cases getN b a with
    | none => exact ⟨rfl, rfl, fun h => by cases h⟩
    | some r => exact ⟨rfl, rfl, fun _ => rfl⟩
  · obtain rfl : ok = false := h.1
    simp only [sN, rN, Bool.false_eq_true, if_false, if_true]
    exact ⟨trivial, rfl, fun h => by cases h⟩
theorem Lk.text {b : List UInt8} {s t : Nat × Bool} (h : Lk s t) : (sT b t).1 = (rT b s).1 ∧ Lk (rT b s).2 (sT b t).2 := by
  obtain ⟨a, ok⟩ := s
  obtain ⟨a', bad⟩ := t
  cases bad
  · obtain rfl : ok = true := h.1
    obtain rfl : a = a' := h.2 rfl
    simp only [sT, rT, Bool.false_eq_true, if_false, if_true]
    cases getT b a with
    | none => exact ⟨rfl, rfl, fun h => by cases h⟩
    | some r => exact ⟨rfl, rfl, fun _ => rfl⟩
  · obtain rfl : ok = false := h.1
    simp only [sT, rT, Bool.false_eq_true, if_false, if_true]
    exact ⟨trivial, rfl, fun h => by cases h⟩
theorem Lk.done {b : List UInt8} {s t : Nat × Bool} (h : Lk s t) : rD b s = (!t.2 && decide (t.1 = b.length)) := by
  obtain ⟨a, ok⟩ := s
  obtain ⟨a', bad⟩ := t
  cases bad
  · obtain rfl : ok = true := h.1
    obtain rfl : a = a' := h.2 rfl
    rfl
  · obtain rfl : ok = false := h.1
    rfl
theorem Lk.refl (a : Nat) : Lk (a, true) (a, false) := ⟨rfl, fun _ => rfl⟩

/-- A number of some bytes, the greatest first. -/
def unL (l : List UInt8) : Nat := l.foldl (fun v x => v * 256 + x.toNat) 0
theorem unL_take {l : List UInt8} {j : Nat} {x : UInt8} (h : l[j]? = some x) : unL (l.take (j + 1)) = unL (l.take j) * 256 + x.toNat := by
  obtain ⟨hj, e⟩ := List.getElem?_eq_some_iff.1 h
  unfold unL
  rw [List.take_succ_eq_append_getElem hj, e, List.foldl_append]; rfl
theorem unL_lt3 : ∀ (l : List UInt8), l.length ≤ 3 → unL l < 16777216
  | [], _ => by decide
  | [a], _ => by have := a.toNat_lt; simp only [unL, List.foldl]; omega
  | [a, b], _ => by have := a.toNat_lt; have := b.toNat_lt; simp only [unL, List.foldl]; omega
  | [a, b, c], _ => by have := a.toNat_lt; have := b.toNat_lt; have := c.toNat_lt; simp only [unL, List.foldl]; omega
  | _ :: _ :: _ :: _ :: _, h => by simp at h
theorem neN (x y : Nat) : ((x : Int) != (y : Int)) = !decide (x = y) := by
  by_cases h : x = y
  · subst h; simp
  · have : (x : Int) ≠ y := by omega
    simp [h, this]
theorem unL_un4 {l : List UInt8} (h : l.length = 4) : unL l = un4 l := by
  match l, h with
  | [a, b, c, d], _ => simp only [unL, List.foldl, un4]; omega
theorem or8 {v y : Nat} (hv : v < 16777216) (hy : y < 256) : orI .i64 ((v * 256 : Nat) : Int) (y : Int) = ((v * 256 + y : Nat) : Int) := by
  unfold orI
  rw [bits_or (w := IntKind.i64.bits) (Nat.lt_trans (show v * 256 < 4294967296 by omega) (by decide)) (Nat.lt_trans hy (by decide))]
  have : v * 256 ||| y = v * 256 + y := by
    rw [show v * 256 = v <<< 8 by rw [Nat.shiftLeft_eq]]
    exact (Nat.shiftLeft_add_eq_or_of_lt (i := 8) hy v).symm
  rw [this, wrap_in (by omega) (by omega)]
theorem openB_iff {b : List UInt8} (h : 4 ≤ b.length) : openB b = if unL (b.drop (b.length - 4)) = crcN (b.take (b.length - 4)) then some (b.take (b.length - 4)) else none := by
  have hl : (b.drop (b.length - 4)).length = 4 := by rw [List.length_drop]; omega
  unfold openB
  rw [unL_un4 hl]
  by_cases h1 : b.drop (b.length - 4) = be4 (crcN (b.take (b.length - 4)))
  · rw [if_pos ⟨h, h1⟩, if_pos (by rw [h1, un4_be4 (crcN_lt _)])]
  · rw [if_neg fun h2 => h1 h2.2, if_neg fun h2 => h1 (by rw [← h2, be4_un4 hl])]
set_option maxHeartbeats 2000000 in
theorem getRecS_ok (n : Nat) (hn : Big + 4 ≤ n) (b : List UInt8) (hb : b.length ≤ 4398046511104) : pcall env n 24 [.c .one [.sh true (.s 1 ((b).map bpv))]] [] = some ⟨tupR (recCs (getR b)), []⟩ := by
  refine walk (fn := Tryz.f24) (d := 3) hn rfl rfl rfl (Nat.le_of_ble_eq_true rfl) fun m hd => ?_
  unfold Tryz.f24
  by_cases h4 : 4 ≤ b.length
  case neg =>
    have w1 : IntKind.i64.wrap ((b.length : Int) - 4) = (b.length : Int) - 4 := wrap_in (by omega) (by omega)
    have h0 : ((b.length : Int) - 4 < 0) = True := by simp only [eq_iff_iff, iff_true]; omega
    have hG : getR b = none := by unfold getR openB; rw [if_neg (fun h => h4 h.1)]
    rw [hG]
    simp only [go_sem, Nat.reduceLT, Nat.reduceAdd, Nat.reduceSub, Nat.reduceEqDiff, Nat.reduceLeDiff, Int.reduceEq, Int.reduceBEq, Int.reduceBNe, Int.reduceNeg, UInt8.reduceToNat, Nat.reduceBEq, w1, h0, tupR, recCs]
  have w1 : IntKind.i64.wrap ((b.length : Int) - 4) = ((b.length - 4 : Nat) : Int) := by rw [wrap_in (by omega) (by omega)]; omega
  have h0 : (((b.length - 4 : Nat) : Int) < 0) = False := by simp
  obtain ⟨N, hN⟩ : ∃ N, b.length - 4 = N := ⟨_, rfl⟩
  have hNl : N ≤ b.length := by omega
  have hx : (b.take N).length = N := by rw [List.length_take]; omega
  obtain ⟨D, hD⟩ : ∃ D, b.drop N = D := ⟨_, rfl⟩
  have hDl : D.length = 4 := by rw [← hD, List.length_drop]; omega
  have hop := openB_iff h4
  rw [hN, hD] at hop
  rw [hN] at w1 h0
  simp only [go_sem, Nat.reduceLT, Nat.reduceAdd, Nat.reduceSub, Nat.reduceEqDiff, Nat.reduceLeDiff, Int.reduceEq, Int.reduceBEq, Int.reduceBNe, Int.reduceNeg, UInt8.reduceToNat, Nat.reduceBEq, w1, h0]
  refine wq_count 4 (fun j => slots 72 [(0, .c .one [.sh true (.s 1 ((b).map bpv))]), (2, .c .box [.sh false (.i .i64 0), .sh false (.i .i64 0), .ow false 1 []]), (4, .c .one [.sh false (.i .i64 (N : Nat))]), (5, .c .one [.sh false (.i .i64 ((unL (D.take j) : Nat) : Int))]), (6, .c .one [.sh false (.i .i64 ((N + j : Nat) : Int))])]) (fun _ => True) (hd (Nat.zero_le _)) (by decide) ?_ (fun j hj h1 hw _ => ?_) (fun _ => ?_)
  · simp only [go_sem, Nat.reduceLT, Nat.reduceAdd, Nat.reduceSub, Nat.reduceEqDiff, Nat.reduceLeDiff, Int.reduceEq, Int.reduceBEq, Int.reduceBNe, Int.reduceNeg, UInt8.reduceToNat, Nat.reduceBEq]; exact fin' rfl
  · have hxj : D[j]? = some D[j] := List.getElem?_eq_getElem (by omega)
    generalize D[j] = y at hxj
    have hby : b[N + j]? = some y := by rw [← hD, List.getElem?_drop] at hxj; exact hxj
    have g1 : (((N + j : Nat) : Int) < (b.length : Int)) = True := by simp only [eq_iff_iff, iff_true]; omega
    have hv : unL (D.take j) < 16777216 := unL_lt3 _ (by rw [List.length_take]; omega)
    have hy := y.toNat_lt
    have e1 : shiftOp .shl .i64 (unL (D.take j) : Int) 8 = some (.i .i64 ((unL (D.take j) * 256 : Nat) : Int)) := shl64 (s := 8) (by decide) (by omega)
    have e2 := or8 hv (y := y.toNat) (by omega)
    have w3 : IntKind.i64.wrap (y.toNat : Int) = y.toNat := wrap_in (by omega) (by omega)
    have w4 : IntKind.i64.wrap (((N + j : Nat) : Int) + 1) = ((N + (j + 1) : Nat) : Int) := by rw [wrap_in (by omega) (by omega)]; omega
    rw [← unL_take hxj] at e2
    simp only [go_sem, Nat.reduceLT, Nat.reduceAdd, Nat.reduceSub, Nat.reduceEqDiff, Nat.reduceLeDiff, Int.reduceEq, Int.reduceBEq, Int.reduceBNe, Int.reduceNeg, UInt8.reduceToNat, Nat.reduceBEq, g1, hby, bpv, w3, e1, e2, w4]
    exact fin' rfl
  · have g1 : (((N + 4 : Nat) : Int) < (b.length : Int)) = False := by simp only [eq_iff_iff, iff_false]; omega
    have e0 : D.take 4 = D := List.take_of_length_le (by omega)
    rw [e0]
    have g2 : ((N : Int) ≤ (b.length : Int)) = True := by simp only [eq_iff_iff, iff_true]; omega
    have e1 : (b.map bpv).take N = (b.take N).map bpv := by rw [← List.map_take]
    have c1 := numS_ok m (hd (by decide)) (b := b.take N) (by omega) (s := (0, false)) (Nat.zero_le _) true
    have l1 := (Lk.refl 0).num (b := b.take N)
    have c2 := numS_ok m (hd (by decide)) (b := b.take N) (by omega) (sN_le (b := b.take N) (s := (0, false)) (Nat.zero_le _)) true
    have l2 := l1.2.num (b := b.take N)
    have c3 := textS_ok m (hd (by decide)) (b := b.take N) (by omega) (sN_le (sN_le (b := b.take N) (s := (0, false)) (Nat.zero_le _))) true
    have l3 := l2.2.text (b := b.take N)
    have l4 := l3.2.done (b := b.take N)
    have c5 := crcS_ok m (hd (by decide)) (b.take N) (by omega)
    have c6 := fun k q b => recS_ok m (hd (by decide)) k q b
    rcases hA : sN (b.take N) (0, false) with ⟨v1, a1, o1⟩
    simp only [hA] at c1 c2 c3 l1 l2 l3 l4
    rcases hB : sN (b.take N) (a1, o1) with ⟨v2, a2, o2⟩
    simp only [hB] at c2 c3 l2 l3 l4
    rcases hC : sT (b.take N) (a2, o2) with ⟨v3, a3, o3⟩
    simp only [hC] at c3 l3 l4
    rw [hx] at l4
    simp only [rdS, go_sem] at c1 c2 c3
    have hr : rec3 (b.take N) = (⟨v1, v2, v3⟩, (rT (b.take N) (rN (b.take N) (rN (b.take N) (0, true)).2).2).2) := by
      simp only [rec3, l1.1, l2.1, l3.1]
    have hG : getR b = if unL D = crcN (b.take N) then (if (!o3 && decide (a3 = N)) = true ∧ recB v1 v2 v3 = true then some ⟨v1, v2, v3⟩ else none) else none := by
      unfold getR
      rw [hop]
      by_cases h5 : unL D = crcN (b.take N)
      · simp only [if_pos h5, hr, l4]
      · simp only [if_neg h5]
    have e5 := neN (unL D) (crcN (b.take N))
    have e6 := neN a3 N
    rw [hG]
    cases o3 <;> by_cases h7 : a3 = N <;> by_cases h8 : unL D = crcN (b.take N) <;> cases h9 : recB v1 v2 v3
    all_goals
      simp only [go_sem, Nat.reduceLT, Nat.reduceAdd, Nat.reduceSub, Nat.reduceEqDiff, Nat.reduceLeDiff, Int.reduceEq, Int.reduceBEq, Int.reduceBNe, Int.reduceNeg, UInt8.reduceToNat, Nat.reduceBEq, g1, g2, e1, c1, c2, c3, c5, c6, e5, e6, h7, h8, h9, rowsOf_mk, tupR, recCs]
end Go.Proofs.YtblelojdboefjaaGreat.R
