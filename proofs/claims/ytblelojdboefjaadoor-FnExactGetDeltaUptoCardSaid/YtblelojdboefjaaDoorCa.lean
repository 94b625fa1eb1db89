/- Sums and numbers of bytes: what both programs make of them. -/
import Derived.Test.YtblelojdboefjaaDoorV
import Derived.Test.YtblelojdboefjaaDoorT
import Derived.Test.YtblelojdboefjaaDoorT1
set_option maxRecDepth 100000
set_option linter.unusedVariables false
set_option linter.unusedSimpArgs false
namespace Go.Proofs.YtblelojdboefjaaDoor.R
open Go

theorem crcI_ok (n : Nat) (hn : Big + 1 ≤ n) (l : List UInt8) (hl : l.length ≤ 4398046511104) : pcall env n 65 [.c .one [.sh true (.s 1 ((l).map bpv))]] [] = some ⟨.c .one [.sh false (.i .i64 ((crcN l : Nat) : Int))], []⟩ := by
  refine walk (fn := Tryd.f65) (d := 0) hn rfl rfl rfl (Nat.le_of_ble_eq_true rfl) fun m hd => ?_
  unfold Tryd.f65
  simp only [go_sem, Nat.reduceLT, Nat.reduceAdd, Nat.reduceSub, Nat.reduceEqDiff, Nat.reduceLeDiff, Int.reduceEq, Int.reduceBEq, Int.reduceBNe, Int.reduceNeg, UInt8.reduceToNat, Nat.reduceBEq]
  refine wq_each l (fun j => slots 32 [(3, .c .one [.sh false (.i .u32 ((crcL (l.take j) : Nat) : Int))]), (7, .c .one [.sh true (.s 1 ((l).map bpv))]), (8, .c .one [.sh false (.i .i64 (l.length : Nat))]), (9, .c .one [.sh false (.i .i64 (j : Nat))])]) (fun _ => True) (hd (Nat.zero_le _)) (by omega) ?_ (fun j x hx hm hj h1 hw _ => ?_) (fun _ => ?_)
  · simp only [go_sem, Nat.reduceLT, Nat.reduceAdd, Nat.reduceSub, Nat.reduceEqDiff, Nat.reduceLeDiff, Int.reduceEq, Int.reduceBEq, Int.reduceBNe, Int.reduceNeg, UInt8.reduceToNat, Nat.reduceBEq]; exact fin' rfl
  · have hlt := crcL_lt (l.take j)
    have hxl : x.toNat < 4294967296 := by have := x.toNat_lt; omega
    have hlt2 : crcL (l.take j) ^^^ x.toNat < 4294967296 := Nat.xor_lt_two_pow (n := 32) hlt hxl
    have e0 : IntKind.u32.wrap (x.toNat : Int) = x.toNat := by rw [IntKind.wrap_u32]; omega
    simp only [go_sem, Nat.reduceLT, Nat.reduceAdd, Nat.reduceSub, Nat.reduceEqDiff, Nat.reduceLeDiff, Int.reduceEq, Int.reduceBEq, Int.reduceBNe, Int.reduceNeg, UInt8.reduceToNat, Nat.reduceBEq, h1, hx, bpv, e0, w_xor32 hlt hxl]
    refine wq_count 8 (fun k => slots 32 [(3, .c .one [.sh false (.i .u32 ((crcRs (crcL (l.take j) ^^^ x.toNat) k : Nat) : Int))]), (7, .c .one [.sh true (.s 1 ((l).map bpv))]), (8, .c .one [.sh false (.i .i64 (l.length : Nat))]), (9, .c .one [.sh false (.i .i64 (j : Nat))]), (17, .c .one [.sh false (.i .i64 (k : Nat))])]) (fun _ => True) (hd (Nat.zero_le _)) (by decide) ?_ (fun k hk h2 hw2 _ => ?_) (fun _ => ?_)
    · simp only [go_sem, Nat.reduceLT, Nat.reduceAdd, Nat.reduceSub, Nat.reduceEqDiff, Nat.reduceLeDiff, Int.reduceEq, Int.reduceBEq, Int.reduceBNe, Int.reduceNeg, UInt8.reduceToNat, Nat.reduceBEq]; exact fin' rfl
    · have hr := crcRs_lt hlt2 k
      have h2' : ((k : Int) < 8) = True := h2
      have hR : crcRs (crcL (l.take j) ^^^ x.toNat) (k + 1) = crcR (crcRs (crcL (l.take j) ^^^ x.toNat) k) := rfl
      rw [hR]
      generalize crcRs (crcL (l.take j) ^^^ x.toNat) k = r at *
      have e1 := w_and32 hr
      have e2 : shiftOp .shr .u32 (r : Int) 1 = some (.i .u32 ((r / 2 : Nat) : Int)) := shr32 (s := 1) (by decide) hr
      have e4 : xorI .u32 ((r / 2 : Nat) : Int) 2197175160 = ((r / 2 ^^^ 2197175160 : Nat) : Int) := w_xor32 (x := r / 2) (y := 2197175160) (by omega) (by decide)
      rcases Nat.mod_two_eq_zero_or_one r with hp | hp
      · rw [hp] at e1
        have hR2 : crcR r = r / 2 := by unfold crcR; rw [if_neg (by omega)]
        rw [hR2]
        simp only [go_sem, Nat.reduceLT, Nat.reduceAdd, Nat.reduceSub, Nat.reduceEqDiff, Nat.reduceLeDiff, Int.reduceEq, Int.reduceBEq, Int.reduceBNe, Int.reduceNeg, UInt8.reduceToNat, Nat.reduceBEq, h2', e1, e2, hw2]
        exact fin' rfl
      · rw [hp] at e1
        have hR2 : crcR r = (r / 2) ^^^ 2197175160 := by unfold crcR; rw [if_pos hp]
        rw [hR2]
        simp only [go_sem, Nat.reduceLT, Nat.reduceAdd, Nat.reduceSub, Nat.reduceEqDiff, Nat.reduceLeDiff, Int.reduceEq, Int.reduceBEq, Int.reduceBNe, Int.reduceNeg, UInt8.reduceToNat, Nat.reduceBEq, h2', e1, e2, e4, hw2]
        exact fin' rfl
    · have h2' : ((8 : Int) < 8) = False := by simp
      simp only [go_sem, Nat.reduceLT, Nat.reduceAdd, Nat.reduceSub, Nat.reduceEqDiff, Nat.reduceLeDiff, Int.reduceEq, Int.reduceBEq, Int.reduceBNe, Int.reduceNeg, UInt8.reduceToNat, Nat.reduceBEq, hw, h2']
      rw [crcL_take hx]; exact fin' rfl
  · have hlt := crcL_lt l
    have e : xorI .u32 (if IntKind.u32.signed then -1 else IntKind.u32.max) (crcL l : Int) = ((crcN l : Nat) : Int) := un_xor32 hlt
    have e2 : IntKind.i64.wrap (crcN l : Int) = crcN l := wrap_in (by omega) (by have := crcN_lt l; omega)
    simp only [go_sem, Nat.reduceLT, Nat.reduceAdd, Nat.reduceSub, Nat.reduceEqDiff, Nat.reduceLeDiff, Int.reduceEq, Int.reduceBEq, Int.reduceBNe, Int.reduceNeg, UInt8.reduceToNat, Nat.reduceBEq, List.take_length, e, e2]
theorem crcS_ok (n : Nat) (hn : Big + 1 ≤ n) (l : List UInt8) (hl : l.length ≤ 4398046511104) : pcall env n 25 [.c .one [.sh true (.s 1 ((l).map bpv))]] [] = some ⟨.c .one [.sh false (.i .i64 ((crcN l : Nat) : Int))], []⟩ := by
  refine walk (fn := Tryd.f25) (d := 0) hn rfl rfl rfl (Nat.le_of_ble_eq_true rfl) fun m hd => ?_
  unfold Tryd.f25
  simp only [go_sem, Nat.reduceLT, Nat.reduceAdd, Nat.reduceSub, Nat.reduceEqDiff, Nat.reduceLeDiff, Int.reduceEq, Int.reduceBEq, Int.reduceBNe, Int.reduceNeg, UInt8.reduceToNat, Nat.reduceBEq]
  refine wq_each l (fun j => slots 34 [(0, .c .one [.sh true (.s 1 ((l).map bpv))]), (3, .c .one [.sh false (.i .i64 ((crcL (l.take j) : Nat) : Int))]), (4, .c .one [.sh false (.i .i64 (j : Nat))])]) (fun _ => True) (hd (Nat.zero_le _)) (by omega) ?_ (fun j x hx hm hj h1 hw _ => ?_) (fun _ => ?_)
  · simp only [go_sem, Nat.reduceLT, Nat.reduceAdd, Nat.reduceSub, Nat.reduceEqDiff, Nat.reduceLeDiff, Int.reduceEq, Int.reduceBEq, Int.reduceBNe, Int.reduceNeg, UInt8.reduceToNat, Nat.reduceBEq]; exact fin' rfl
  · have hlt := crcL_lt (l.take j)
    have hxl : x.toNat < 4294967296 := by have := x.toNat_lt; omega
    have hlt2 : crcL (l.take j) ^^^ x.toNat < 4294967296 := Nat.xor_lt_two_pow (n := 32) hlt hxl
    have e0 : IntKind.i64.wrap (x.toNat : Int) = x.toNat := wrap_in (by omega) (by omega)
    simp only [go_sem, Nat.reduceLT, Nat.reduceAdd, Nat.reduceSub, Nat.reduceEqDiff, Nat.reduceLeDiff, Int.reduceEq, Int.reduceBEq, Int.reduceBNe, Int.reduceNeg, UInt8.reduceToNat, Nat.reduceBEq, h1, hx, bpv, e0, w_xor64 hlt hxl]
    refine wq_count 8 (fun k => slots 34 [(0, .c .one [.sh true (.s 1 ((l).map bpv))]), (3, .c .one [.sh false (.i .i64 ((crcRs (crcL (l.take j) ^^^ x.toNat) k : Nat) : Int))]), (4, .c .one [.sh false (.i .i64 (j : Nat))]), (5, .c .one [.sh false (.i .i64 (k : Nat))])]) (fun _ => True) (hd (Nat.zero_le _)) (by decide) ?_ (fun k hk h2 hw2 _ => ?_) (fun _ => ?_)
    · simp only [go_sem, Nat.reduceLT, Nat.reduceAdd, Nat.reduceSub, Nat.reduceEqDiff, Nat.reduceLeDiff, Int.reduceEq, Int.reduceBEq, Int.reduceBNe, Int.reduceNeg, UInt8.reduceToNat, Nat.reduceBEq]; exact fin' rfl
    · have hr := crcRs_lt hlt2 k
      have h2' : ((k : Int) < 8) = True := h2
      have hR : crcRs (crcL (l.take j) ^^^ x.toNat) (k + 1) = crcR (crcRs (crcL (l.take j) ^^^ x.toNat) k) := rfl
      rw [hR]
      generalize crcRs (crcL (l.take j) ^^^ x.toNat) k = r at *
      have e1 := w_and64 hr
      have e2 : shiftOp .shr .i64 (r : Int) 1 = some (.i .i64 ((r / 2 : Nat) : Int)) := shr64 (s := 1) (by decide) (by omega)
      have e4 : xorI .i64 ((r / 2 : Nat) : Int) 2197175160 = ((r / 2 ^^^ 2197175160 : Nat) : Int) := w_xor64 (x := r / 2) (y := 2197175160) (by omega) (by decide)
      rcases Nat.mod_two_eq_zero_or_one r with hp | hp
      · rw [hp] at e1
        have hR2 : crcR r = r / 2 := by unfold crcR; rw [if_neg (by omega)]
        rw [hR2]
        simp only [go_sem, Nat.reduceLT, Nat.reduceAdd, Nat.reduceSub, Nat.reduceEqDiff, Nat.reduceLeDiff, Int.reduceEq, Int.reduceBEq, Int.reduceBNe, Int.reduceNeg, UInt8.reduceToNat, Nat.reduceBEq, h2', e1, e2, hw2]
        exact fin' rfl
      · rw [hp] at e1
        have hR2 : crcR r = (r / 2) ^^^ 2197175160 := by unfold crcR; rw [if_pos hp]
        rw [hR2]
        simp only [go_sem, Nat.reduceLT, Nat.reduceAdd, Nat.reduceSub, Nat.reduceEqDiff, Nat.reduceLeDiff, Int.reduceEq, Int.reduceBEq, Int.reduceBNe, Int.reduceNeg, UInt8.reduceToNat, Nat.reduceBEq, h2', e1, e2, e4, hw2]
        exact fin' rfl
    · have h2' : ((8 : Int) < 8) = False := by simp
      simp only [go_sem, Nat.reduceLT, Nat.reduceAdd, Nat.reduceSub, Nat.reduceEqDiff, Nat.reduceLeDiff, Int.reduceEq, Int.reduceBEq, Int.reduceBNe, Int.reduceNeg, UInt8.reduceToNat, Nat.reduceBEq, hw, h2']
      rw [crcL_take hx]; exact fin' rfl
  · have hlt := crcL_lt l
    have e : xorI .i64 (crcL l : Int) 4294967295 = ((crcN l : Nat) : Int) := w_xor64 (x := crcL l) (y := 4294967295) hlt (by decide)
    simp only [go_sem, Nat.reduceLT, Nat.reduceAdd, Nat.reduceSub, Nat.reduceEqDiff, Nat.reduceLeDiff, Int.reduceEq, Int.reduceBEq, Int.reduceBNe, Int.reduceNeg, UInt8.reduceToNat, Nat.reduceBEq, List.take_length, e]
end Go.Proofs.YtblelojdboefjaaDoor.R
