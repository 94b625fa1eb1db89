/- What is sealed; readers of both programs. -/
import Derived.Test.YtblelojdboefjaaDoorCc
import Derived.Test.YtblelojdboefjaaDoorCk
set_option maxRecDepth 100000
set_option linter.unusedVariables false
set_option linter.unusedSimpArgs false
namespace Go.Proofs.YtblelojdboefjaaDoor.R
open Go

/-- What is sealed, if it is right. -/
def openB (b : List UInt8) : Option (List UInt8) := if 4 ≤ b.length ∧ b.drop (b.length - 4) = be4 (crcN (b.take (b.length - 4))) then some (b.take (b.length - 4)) else none
def opnCs (r : Option (List UInt8)) : List CV := match r with
  | some x => [.sh true (.s 1 (x.map bpv)), .sh false (.b true)]
  | none => [.ow false 1 [], .sh false (.b false)]
def tup2 (l : List CV) : SV := .c (.tup [(false, 1), (false, 1)]) l
theorem opened_ok (n : Nat) (hn : Big + 3 ≤ n) (b : List UInt8) (hb : b.length ≤ 4398046511104) : pcall env n 44 [.c .one [.sh true (.s 1 ((b).map bpv))]] [] = some ⟨tup2 (opnCs (openB b)), []⟩ := by
  refine walk (fn := Tryd.f44) (d := 2) hn rfl rfl rfl (Nat.le_of_ble_eq_true rfl) fun m hd => ?_
  unfold Tryd.f44
  by_cases h4 : 4 ≤ b.length
  · have w1 : IntKind.i64.wrap ((b.length : Int) - 4) = ((b.length - 4 : Nat) : Int) := by rw [wrap_in (by omega) (by omega)]; omega
    have h0 : (((b.length - 4 : Nat) : Int) < 0) = False := by simp
    have g1 : (((b.length - 4 : Nat) : Int) ≤ (b.length : Int)) = True := by simp only [eq_iff_iff, iff_true]; omega
    have hc := sealed_ok m (hd (by decide)) (b.take (b.length - 4)) (by rw [List.length_take]; omega)
    have e1 : (b.map bpv).take (b.length - 4) = (b.take (b.length - 4)).map bpv := by rw [← List.map_take]
    unfold openB
    by_cases h5 : b.drop (b.length - 4) = be4 (crcN (b.take (b.length - 4)))
    · rw [if_pos ⟨h4, h5⟩]
      have hspl : (b.take (b.length - 4) ++ be4 (crcN (b.take (b.length - 4))) == b) = true := by rw [← h5, List.take_append_drop]; simp
      simp only [go_sem, Nat.reduceLT, Nat.reduceAdd, Nat.reduceSub, Nat.reduceEqDiff, Nat.reduceLeDiff, Int.reduceEq, Int.reduceBEq, Int.reduceBNe, Int.reduceNeg, UInt8.reduceToNat, Nat.reduceBEq, w1, h0, g1, e1, hc, bytes_map, hspl, tup2, opnCs]
      exact chk1 (by kernel_rfl)
    · rw [if_neg (fun h => h5 h.2)]
      have hspl : (b.take (b.length - 4) ++ be4 (crcN (b.take (b.length - 4))) == b) = false := by
        rw [beq_eq_false_iff_ne]
        intro h
        apply h5
        have := congrArg (List.drop (b.length - 4)) h
        rw [List.drop_append, List.length_take] at this
        rw [← this]
        rw [List.drop_of_length_le (by rw [List.length_take]; omega), show b.length - 4 - min (b.length - 4) b.length = 0 by omega]
        rfl
      simp only [go_sem, Nat.reduceLT, Nat.reduceAdd, Nat.reduceSub, Nat.reduceEqDiff, Nat.reduceLeDiff, Int.reduceEq, Int.reduceBEq, Int.reduceBNe, Int.reduceNeg, UInt8.reduceToNat, Nat.reduceBEq, w1, h0, g1, e1, hc, bytes_map, hspl, tup2, opnCs]
      exact chk1 (by kernel_rfl)
  · have w1 : IntKind.i64.wrap ((b.length : Int) - 4) = (b.length : Int) - 4 := wrap_in (by omega) (by omega)
    have h0 : ((b.length : Int) - 4 < 0) = True := by simp only [eq_iff_iff, iff_true]; omega
    have e : openB b = none := by unfold openB; rw [if_neg (fun h => h4 h.1)]
    rw [e]
    simp only [go_sem, Nat.reduceLT, Nat.reduceAdd, Nat.reduceSub, Nat.reduceEqDiff, Nat.reduceLeDiff, Int.reduceEq, Int.reduceBEq, Int.reduceBNe, Int.reduceNeg, UInt8.reduceToNat, Nat.reduceBEq, w1, h0, tup2, opnCs]
    exact chk1 (by kernel_rfl)

/-- The state of a reader: where it is, and whether all was right. -/
def rN (b : List UInt8) (s : Nat × Bool) : Nat × (Nat × Bool) := if s.2 = true then (match getN b s.1 with
  | some (v, q) => (v, (q, true))
  | none => (0, (0, false))) else (0, s)
def rT (b : List UInt8) (s : Nat × Bool) : List UInt8 × (Nat × Bool) := if s.2 = true then (match getT b s.1 with
  | some (v, q) => (v, (q, true))
  | none => ([], (0, false))) else ([], s)
def rD (b : List UInt8) (s : Nat × Bool) : Bool := s.2 && decide (s.1 = b.length)
theorem rN_le {b : List UInt8} {s : Nat × Bool} (h : s.1 ≤ b.length) : (rN b s).2.1 ≤ b.length := by
  unfold rN
  split
  · split
    · rename_i v q e; exact (getN_lt e).2.1
    · exact Nat.zero_le _
  · exact h
theorem rT_le {b : List UInt8} {s : Nat × Bool} (h : s.1 ≤ b.length) : (rT b s).2.1 ≤ b.length := by
  unfold rT
  split
  · split
    · rename_i v q e; exact (getT_lt e).1
    · exact Nat.zero_le _
  · exact h
/-- A reader's cells: its bytes, if all was right so far. -/
def Rdr (b : List UInt8) (s : Nat × Bool) (c : CV) : Prop := s.1 ≤ b.length ∧ ((∃ fl, c = .sh fl (.s 1 (b.map bpv))) ∨ (s.2 = false ∧ c = .ow false 1 []))
theorem rN_no {b : List UInt8} {s : Nat × Bool} (h : s.2 = false) : (rN b s).2.2 = false := by unfold rN; simp [h]
theorem rT_no {b : List UInt8} {s : Nat × Bool} (h : s.2 = false) : (rT b s).2.2 = false := by unfold rT; simp [h]
theorem Rdr.num {b : List UInt8} {s : Nat × Bool} {c : CV} (h : Rdr b s c) : Rdr b (rN b s).2 c := ⟨rN_le h.1, h.2.imp id fun h => ⟨rN_no h.1, h.2⟩⟩
theorem Rdr.text {b : List UInt8} {s : Nat × Bool} {c : CV} (h : Rdr b s c) : Rdr b (rT b s).2 c := ⟨rT_le h.1, h.2.imp id fun h => ⟨rT_no h.1, h.2⟩⟩
def rdI (c : CV) (s : Nat × Bool) : List CV := [c, .sh false (.i .i64 (s.1 : Int)), .sh false (.b s.2)]
theorem num_ok (n : Nat) (hn : Big + 2 ≤ n) {b : List UInt8} (hb : b.length ≤ 4398046511104) {s : Nat × Bool} {c : CV} (h : Rdr b s c) : pcall env n 45 [.bp 0 0] [rdI c s] = some ⟨.c .one [.sh false (.i .i64 (((rN b s).1 : Nat) : Int))], [rdI c (rN b s).2]⟩ := by
  refine walk (fn := Tryd.f45) (d := 1) hn rfl rfl rfl (Nat.le_of_ble_eq_true rfl) fun m hd => ?_
  unfold Tryd.f45
  obtain ⟨a, ok⟩ := s
  cases ok with
  | false =>
    simp only [rN, rdI, Bool.false_eq_true, if_false]
    rcases h.2 with ⟨fl, rfl⟩ | ⟨_, rfl⟩
    · simp only [go_sem, Nat.reduceLT, Nat.reduceAdd, Nat.reduceSub, Nat.reduceEqDiff, Nat.reduceLeDiff, Int.reduceEq, Int.reduceBEq, Int.reduceBNe, Int.reduceNeg, UInt8.reduceToNat, Nat.reduceBEq]; rfl
    · simp only [go_sem, Nat.reduceLT, Nat.reduceAdd, Nat.reduceSub, Nat.reduceEqDiff, Nat.reduceLeDiff, Int.reduceEq, Int.reduceBEq, Int.reduceBNe, Int.reduceNeg, UInt8.reduceToNat, Nat.reduceBEq]; rfl
  | true =>
    obtain ⟨fl, rfl⟩ := h.2.resolve_right (by simp)
    have hg := getNumI_ok m (hd (by decide)) b hb a h.1
    simp only [rN, rdI, if_true]
    cases hr : getN b a with
    | none =>
      simp only [hr, tup3, numCs] at hg
      simp only [go_sem, Nat.reduceLT, Nat.reduceAdd, Nat.reduceSub, Nat.reduceEqDiff, Nat.reduceLeDiff, Int.reduceEq, Int.reduceBEq, Int.reduceBNe, Int.reduceNeg, UInt8.reduceToNat, Nat.reduceBEq, hg]
      refine chk (by kernel_rfl) ?_
      simp only [rN, rdI, hr]; rfl
    | some r =>
      simp only [hr, tup3, numCs] at hg
      simp only [go_sem, Nat.reduceLT, Nat.reduceAdd, Nat.reduceSub, Nat.reduceEqDiff, Nat.reduceLeDiff, Int.reduceEq, Int.reduceBEq, Int.reduceBNe, Int.reduceNeg, UInt8.reduceToNat, Nat.reduceBEq, hg]
      refine chk (by kernel_rfl) ?_
      simp only [rN, rdI, hr]; rfl
theorem text_ok (n : Nat) (hn : Big + 3 ≤ n) {b : List UInt8} (hb : b.length ≤ 4398046511104) {s : Nat × Bool} {c : CV} (h : Rdr b s c) : pcall env n 48 [.bp 0 0] [rdI c s] = some ⟨.c .one [.sh false (.t (⟨(rT b s).1.toArray⟩))], [rdI c (rT b s).2]⟩ := by
  refine walk (fn := Tryd.f48) (d := 2) hn rfl rfl rfl (Nat.le_of_ble_eq_true rfl) fun m hd => ?_
  unfold Tryd.f48
  obtain ⟨a, ok⟩ := s
  cases ok with
  | false =>
    simp only [rT, rdI, Bool.false_eq_true, if_false]
    rcases h.2 with ⟨fl, rfl⟩ | ⟨_, rfl⟩
    · simp only [go_sem, Nat.reduceLT, Nat.reduceAdd, Nat.reduceSub, Nat.reduceEqDiff, Nat.reduceLeDiff, Int.reduceEq, Int.reduceBEq, Int.reduceBNe, Int.reduceNeg, UInt8.reduceToNat, Nat.reduceBEq]; rfl
    · simp only [go_sem, Nat.reduceLT, Nat.reduceAdd, Nat.reduceSub, Nat.reduceEqDiff, Nat.reduceLeDiff, Int.reduceEq, Int.reduceBEq, Int.reduceBNe, Int.reduceNeg, UInt8.reduceToNat, Nat.reduceBEq]; rfl
  | true =>
    obtain ⟨fl, rfl⟩ := h.2.resolve_right (by simp)
    have hg := getTextI_ok m (hd (by decide)) b hb a h.1
    simp only [rT, rdI, if_true]
    cases hr : getT b a with
    | none =>
      simp only [hr, tup3, txtCs] at hg
      simp only [go_sem, Nat.reduceLT, Nat.reduceAdd, Nat.reduceSub, Nat.reduceEqDiff, Nat.reduceLeDiff, Int.reduceEq, Int.reduceBEq, Int.reduceBNe, Int.reduceNeg, UInt8.reduceToNat, Nat.reduceBEq, hg]
      refine chk (by kernel_rfl) ?_
      simp only [rT, rdI, hr]; rfl
    | some r =>
      simp only [hr, tup3, txtCs] at hg
      simp only [go_sem, Nat.reduceLT, Nat.reduceAdd, Nat.reduceSub, Nat.reduceEqDiff, Nat.reduceLeDiff, Int.reduceEq, Int.reduceBEq, Int.reduceBNe, Int.reduceNeg, UInt8.reduceToNat, Nat.reduceBEq, hg]
      refine chk (by kernel_rfl) ?_
      simp only [rT, rdI, hr]; rfl
theorem done_ok (n : Nat) (hn : Big + 1 ≤ n) {b : List UInt8} (hb : b.length ≤ 4398046511104) {s : Nat × Bool} {c : CV} (h : Rdr b s c) : pcall env n 49 [.bp 0 0] [rdI c s] = some ⟨.c .one [.sh false (.b (rD b s))], [rdI c s]⟩ := by
  refine walk (fn := Tryd.f49) (d := 0) hn rfl rfl rfl (Nat.le_of_ble_eq_true rfl) fun m hd => ?_
  unfold Tryd.f49
  obtain ⟨a, ok⟩ := s
  cases ok with
  | false =>
    simp only [rD, rdI, Bool.false_and]
    rcases h.2 with ⟨fl, rfl⟩ | ⟨_, rfl⟩
    · simp only [go_sem, Nat.reduceLT, Nat.reduceAdd, Nat.reduceSub, Nat.reduceEqDiff, Nat.reduceLeDiff, Int.reduceEq, Int.reduceBEq, Int.reduceBNe, Int.reduceNeg, UInt8.reduceToNat, Nat.reduceBEq]
      exact chk (by kernel_rfl) rfl
    · simp only [go_sem, Nat.reduceLT, Nat.reduceAdd, Nat.reduceSub, Nat.reduceEqDiff, Nat.reduceLeDiff, Int.reduceEq, Int.reduceBEq, Int.reduceBNe, Int.reduceNeg, UInt8.reduceToNat, Nat.reduceBEq]
      exact chk (by kernel_rfl) rfl
  | true =>
    obtain ⟨fl, rfl⟩ := h.2.resolve_right (by simp)
    have e : ((a : Int) == (b.length : Int)) = decide (a = b.length) := by rw [Bool.eq_iff_iff]; simp; omega
    simp only [rD, rdI, Bool.true_and]
    simp only [go_sem, Nat.reduceLT, Nat.reduceAdd, Nat.reduceSub, Nat.reduceEqDiff, Nat.reduceLeDiff, Int.reduceEq, Int.reduceBEq, Int.reduceBNe, Int.reduceNeg, UInt8.reduceToNat, Nat.reduceBEq, e]
    exact chk (by kernel_rfl) rfl
end Go.Proofs.YtblelojdboefjaaDoor.R
