/- The first program's reader: counts, attributes. -/
import Derived.Test.YtblelojdboefjaaDoorGa
set_option maxRecDepth 100000
set_option linter.unusedVariables false
set_option linter.unusedSimpArgs false
namespace Go.Proofs.YtblelojdboefjaaDoor.R
open Go

/-- A reader's cells; without bytes there is nothing to read. -/
def Rdc (b : List UInt8) (s : RSt) (c : CV) : Prop := Rdr b s c ∧ (c = .ow false 1 [] → b = [])
section
variable {b : List UInt8} {s : RSt} {c : CV}
theorem Rdc.num (h : Rdc b s c) : Rdc b (rN b s).2 c := ⟨h.1.num, h.2⟩
theorem Rdc.text (h : Rdc b s c) : Rdc b (rT b s).2 c := ⟨h.1.text, h.2⟩
theorem Rdc.of {f : RSt → RSt} (h : Rdc b s c) (h1 : (f s).1 ≤ b.length) (h2 : s.2 = false → (f s).2 = false) : Rdc b (f s) c := ⟨⟨h1, h.1.2.imp id fun h => ⟨h2 h.1, h.2⟩⟩, h.2⟩
theorem Rdc.rd {α : Type} {f : RSt → α × RSt} (hf : RdI b f) (h : Rdc b s c) : Rdc b (f s).2 c := Rdc.of (f := fun s => (f s).2) h (hf.le s h.1.1) (hf.no s)
end
theorem rdCount_ok (n : Nat) (hn : Big + 3 ≤ n) {b : List UInt8} (hb : b.length ≤ 4398046511104) {s : RSt} {c : CV} (h : Rdc b s c) : pcall env n 47 [.bp 0 0] [rdI c s] = some ⟨.c .one [.sh false (.i .i64 (((rC b s).1 : Nat) : Int))], [rdI c (rC b s).2]⟩ := by
  refine walk (fn := Tryd.f47) (d := 2) hn rfl rfl rfl (Nat.le_of_ble_eq_true rfl) fun m hd => ?_
  unfold Tryd.f47
  have e1 := num_ok m (hd (by decide)) hb h.1
  have h2 := h.num
  have hN : (rN b s).2.1 ≤ b.length := h2.1.1
  have w1 : IntKind.i64.wrap ((b.length : Int) - ((rN b s).2.1 : Int)) = (b.length : Int) - ((rN b s).2.1 : Int) := wrap_in (by omega) (by omega)
  unfold rC
  rcases hA : rN b s with ⟨v, p, ok⟩
  rw [hA] at e1 hN w1 h2
  simp only at w1 hN
  obtain ⟨a, o⟩ := s
  simp only [rdI, go_sem] at e1
  rcases h2.1.2 with ⟨fl, rfl⟩ | ⟨_, rfl⟩
  · by_cases hc : (v : Int) > (b.length : Int) - (p : Int)
    · rw [if_pos hc]
      simp only [rdI]
      simp only [go_sem, Nat.reduceLT, Nat.reduceAdd, Nat.reduceSub, Nat.reduceEqDiff, Nat.reduceLeDiff, Int.reduceEq, Int.reduceBEq, Int.reduceBNe, Int.reduceNeg, UInt8.reduceToNat, Nat.reduceBEq, e1, w1, hc]
      refine chk (by kernel_rfl) ?_
      cases fl <;> rfl
    · rw [if_neg hc]
      simp only [rdI]
      simp only [go_sem, Nat.reduceLT, Nat.reduceAdd, Nat.reduceSub, Nat.reduceEqDiff, Nat.reduceLeDiff, Int.reduceEq, Int.reduceBEq, Int.reduceBNe, Int.reduceNeg, UInt8.reduceToNat, Nat.reduceBEq, e1, w1, hc]
      refine chk (by kernel_rfl) ?_
      cases fl <;> rfl
  · obtain rfl := h.2 rfl
    have w2 : IntKind.i64.wrap (0 - (p : Int)) = 0 - (p : Int) := w1
    by_cases hc : (v : Int) > 0 - (p : Int)
    · rw [if_pos (show (v : Int) > (([] : List UInt8).length : Int) - (p : Int) from hc)]
      simp only [rdI]
      simp only [go_sem, Nat.reduceLT, Nat.reduceAdd, Nat.reduceSub, Nat.reduceEqDiff, Nat.reduceLeDiff, Int.reduceEq, Int.reduceBEq, Int.reduceBNe, Int.reduceNeg, UInt8.reduceToNat, Nat.reduceBEq, e1, w2, hc]
      exact chk (by kernel_rfl) rfl
    · rw [if_neg (show ¬ (v : Int) > (([] : List UInt8).length : Int) - (p : Int) from hc)]
      simp only [rdI]
      simp only [go_sem, Nat.reduceLT, Nat.reduceAdd, Nat.reduceSub, Nat.reduceEqDiff, Nat.reduceLeDiff, Int.reduceEq, Int.reduceBEq, Int.reduceBNe, Int.reduceNeg, UInt8.reduceToNat, Nat.reduceBEq, e1, w2, hc]
      exact chk (by kernel_rfl) rfl
theorem rC_le {b : List UInt8} {s : RSt} : ((rC b s).1 : Int) ≤ (b.length : Int) := by
  unfold rC
  split
  · exact Int.natCast_nonneg _
  · omega
set_option maxHeartbeats 1000000 in
theorem rdAttrs_ok (n : Nat) (hn : Big + 4 ≤ n) {b : List UInt8} (hb : b.length ≤ 1048576) {s : RSt} {c : CV} (h : Rdc b s c) : pcall env n 46 [.bp 0 0] [rdI c s] = some ⟨.c .one [.ow false 2 ((rA b s).1.map TAttr.pv)], [rdI c (rA b s).2]⟩ := by
  refine walk (fn := Tryd.f46) (d := 3) hn rfl rfl rfl (Nat.le_of_ble_eq_true rfl) fun m hd => ?_
  unfold Tryd.f46
  have e1 := rdCount_ok m (hd (by decide)) (by omega) h
  have h1 : Rdc b (rC b s).2 c := h.rd rd_C
  have hl := rC_le (b := b) (s := s)
  unfold rA
  rcases hA : rC b s with ⟨k, u⟩
  rw [hA] at e1 hl h1
  simp only at hl h1
  have hT := fun (w : RSt) (hw : Rdc b w c) => text_ok m (hd (by decide)) (by omega) hw.1
  obtain ⟨a, o⟩ := s
  simp only [rdI, go_sem] at e1
  have hr := fun j => (h1.rd (rd_rep rd_A1 j))
  obtain ⟨c0, hc0⟩ : ∃ c0, c0 = c := ⟨c, rfl⟩
  rcases h.1.2 with ⟨fl, rfl⟩ | ⟨_, rfl⟩
  all_goals
    simp only [rdI]
    simp only [go_sem, Nat.reduceLT, Nat.reduceAdd, Nat.reduceSub, Nat.reduceEqDiff, Nat.reduceLeDiff, Int.reduceEq, Int.reduceBEq, Int.reduceBNe, Int.reduceNeg, UInt8.reduceToNat, Nat.reduceBEq, e1, Nat.zero_mul, Nat.zero_le, Bool.and_self]
    refine wq_count k (fun j => slots 23 [(0, .bp 23 0), (3, .c .one [.ow false 2 ((rep (rA1 b) j u).1.map TAttr.pv)]), (8, .c .one [.sh false (.i .i64 ((k : Nat)))]), (9, .c .one [.sh false (.i .i64 (j : Nat))])] ++ [.c .box (rdI c0 (rep (rA1 b) j u).2)]) (fun _ => True) (hd (Nat.zero_le _)) (by omega) ?_ (fun j hj h3 hw _ => ?_) (fun _ => ?_)
    · simp only [go_sem, Nat.reduceLT, Nat.reduceAdd, Nat.reduceSub, Nat.reduceEqDiff, Nat.reduceLeDiff, Int.reduceEq, Int.reduceBEq, Int.reduceBNe, Int.reduceNeg, UInt8.reduceToNat, Nat.reduceBEq]; exact fin' (by simp only [rdI, hc0]; rfl)
    · have hj0 := hr j
      have hlen := rep_len (f := rA1 b) (k := j) (s := u)
      have hlim : LIM = 70368744177664 := rfl
      have e4 : rep (rA1 b) (j + 1) u = ((rep (rA1 b) j u).1 ++ [(rA1 b (rep (rA1 b) j u).2).1], (rA1 b (rep (rA1 b) j u).2).2) := rfl
      rw [e4]
      generalize rep (rA1 b) j u = R at hj0 hlen ⊢
      obtain ⟨L, w⟩ := R
      simp only at hj0 hlen
      have g1 : (L.length + 1) * 32 ≤ LIM := by omega
      have t1 := hT w hj0
      have t2 := hT _ hj0.text
      simp only [rA1, rS]
      rcases hB : rT b w with ⟨v1, w1⟩
      simp only [hB] at t1 t2
      rcases hC : rT b w1 with ⟨v2, w2⟩
      simp only [hC] at t2
      simp only [rdI, go_sem] at t1 t2
      simp only [rdI, hc0]
      simp only [go_sem, Nat.reduceLT, Nat.reduceAdd, Nat.reduceSub, Nat.reduceEqDiff, Nat.reduceLeDiff, Int.reduceEq, Int.reduceBEq, Int.reduceBNe, Int.reduceNeg, UInt8.reduceToNat, Nat.reduceBEq, h3, hw, t1, t2, g1, Bool.and_self]
      exact fin' (by simp only [rdI, hc0, rA1, rS, hB, hC, List.map_append]; rfl)
    · simp only [rdI, hc0]
      simp only [go_sem, Nat.reduceLT, Nat.reduceAdd, Nat.reduceSub, Nat.reduceEqDiff, Nat.reduceLeDiff, Int.reduceEq, Int.reduceBEq, Int.reduceBNe, Int.reduceNeg, UInt8.reduceToNat, Nat.reduceBEq]
      rfl
end Go.Proofs.YtblelojdboefjaaDoor.R
