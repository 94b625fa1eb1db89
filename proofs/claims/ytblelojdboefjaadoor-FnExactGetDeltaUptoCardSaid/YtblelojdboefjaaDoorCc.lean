/- Numbers and texts read of bytes, as the reference reads them; texts. -/
import Derived.Test.YtblelojdboefjaaDoorCb
import Derived.Test.YtblelojdboefjaaDoorCk
set_option maxRecDepth 100000
set_option linter.unusedVariables false
set_option linter.unusedSimpArgs false
namespace Go.Proofs.YtblelojdboefjaaDoor.R
open Go

theorem or_add {a y j : Nat} (h : a < 128 ^ j) (hj : j ≤ 2) (hy : y ≤ 127) : orI .i64 (a : Int) ((y * 128 ^ j : Nat) : Int) = ((a + y * 128 ^ j : Nat) : Int) := by
  have hp : 128 ^ j ≤ 16384 := Nat.pow_le_pow_right (by decide) hj
  have hm1 : y * 128 ^ j ≤ 127 * 16384 := Nat.mul_le_mul hy hp
  have e : (128 : Nat) ^ j = 2 ^ (7 * j) := by rw [Nat.pow_mul]
  unfold orI
  rw [bits_or (w := IntKind.i64.bits) (by have : (2 : Nat) ^ IntKind.i64.bits = 18446744073709551616 := by decide
                                          omega) (by have : (2 : Nat) ^ IntKind.i64.bits = 18446744073709551616 := by decide
                                                     omega)]
  have : a ||| y * 128 ^ j = a + y * 128 ^ j := by
    rw [e] at h ⊢
    rw [Nat.or_comm, ← Nat.shiftLeft_eq, ← Nat.shiftLeft_add_eq_or_of_lt h, Nat.add_comm]
  rw [this, wrap_in (by omega) (by omega)]
theorem and127 {x : Nat} (hx : x < 256) : andI .i64 (x : Int) 127 = ((x % 128 : Nat) : Int) := by
  unfold andI
  rw [show (127 : Int) = ((127 : Nat) : Int) from rfl, bits_and (w := IntKind.i64.bits) (Nat.lt_trans hx (by decide)) (by decide), show x &&& 127 = x % 2 ^ 7 from Nat.and_two_pow_sub_one_eq_mod x 7, wrap_in (by omega) (by omega)]
set_option maxHeartbeats 1000000 in
theorem getNumS_ok (n : Nat) (hn : Big + 1 ≤ n) (b : List UInt8) (hb : b.length ≤ 4398046511104) (a : Nat) (ha : a ≤ b.length) : pcall env n 69 [.c .one [.sh true (.s 1 ((b).map bpv))], .c .one [.sh false (.i .i64 (a : Nat))]] [] = some ⟨tup3 (numCs (getN b a)), []⟩ := by
  refine walk (fn := Tryd.f69) (d := 0) hn rfl rfl rfl (Nat.le_of_ble_eq_true rfl) fun m hd => ?_
  unfold Tryd.f69
  simp only [go_sem, Nat.reduceLT, Nat.reduceAdd, Nat.reduceSub, Nat.reduceEqDiff, Nat.reduceLeDiff, Int.reduceEq, Int.reduceBEq, Int.reduceBNe, Int.reduceNeg, UInt8.reduceToNat, Nat.reduceBEq]
  refine wq_count 3 (fun j => slots 64 [(0, .c .one [.sh true (.s 1 ((b).map bpv))]), (1, .c .one [.sh false (.i .i64 (a : Nat))]), (7, .c .one [.sh false (.i .i64 (accN b a j : Nat))]), (8, .c .one [.sh false (.i .i64 (j : Nat))])]) (fun j => j ≤ 3 ∧ getN b a = getGo b a (3 - j) j (accN b a j)) (hd (Nat.zero_le _)) (by decide) ?_ (fun j hj h1 hw hI => ?_) (fun hI => ?_)
  · simp only [go_sem, Nat.reduceLT, Nat.reduceAdd, Nat.reduceSub, Nat.reduceEqDiff, Nat.reduceLeDiff, Int.reduceEq, Int.reduceBEq, Int.reduceBNe, Int.reduceNeg, UInt8.reduceToNat, Nat.reduceBEq]; exact fin rfl ⟨by decide, rfl⟩
  · have h1' : ((j : Int) < 3) = True := h1
    have h0 : ((a : Int) ≥ 0) = True := by simp
    have w2 : IntKind.i64.wrap ((a : Int) + j) = ((a + j : Nat) : Int) := by rw [wrap_in (by omega) (by omega)]; omega
    have hacc := accN_lt b a j
    have hp : 128 ^ j ≤ 16384 := Nat.pow_le_pow_right (by decide) (show j ≤ 2 by omega)
    obtain ⟨k, hk⟩ : ∃ k, 3 - j = k + 1 := ⟨3 - j - 1, by omega⟩
    have hk' : 3 - (j + 1) = k := by omega
    obtain ⟨_, hI⟩ := hI
    rw [hk] at hI
    unfold getGo at hI
    by_cases hal : a < b.length
    case neg =>
      have h2 : ((a : Int) < (b.length : Int)) = False := by simp only [eq_iff_iff, iff_false]; omega
      have hx : b[a + j]? = none := by simp; omega
      simp only [hx] at hI
      rw [hI]
      simp only [go_sem, Nat.reduceLT, Nat.reduceAdd, Nat.reduceSub, Nat.reduceEqDiff, Nat.reduceLeDiff, Int.reduceEq, Int.reduceBEq, Int.reduceBNe, Int.reduceNeg, UInt8.reduceToNat, Nat.reduceBEq, h1', h0, h2, tup3, numCs]
    have h2 : ((a : Int) < (b.length : Int)) = True := by simp only [eq_iff_iff, iff_true]; omega
    cases hx : b[a + j]? with
    | none =>
      have hge : b.length ≤ a + j := by simpa using hx
      have h3 : (((a + j : Nat) : Int) < (b.length : Int)) = False := by simp only [eq_iff_iff, iff_false]; omega
      simp only [hx] at hI
      rw [hI]
      simp only [go_sem, Nat.reduceLT, Nat.reduceAdd, Nat.reduceSub, Nat.reduceEqDiff, Nat.reduceLeDiff, Int.reduceEq, Int.reduceBEq, Int.reduceBNe, Int.reduceNeg, UInt8.reduceToNat, Nat.reduceBEq, h1', h0, h2, w2, h3, tup3, numCs]
    | some x =>
      have hlt := (List.getElem?_eq_some_iff.1 hx).1
      have h3 : (((a + j : Nat) : Int) < (b.length : Int)) = True := by simp only [eq_iff_iff, iff_true]; omega
      have hxl := x.toNat_lt
      have w3 : IntKind.i64.wrap (x.toNat : Int) = x.toNat := wrap_in (by omega) (by omega)
      have e1 := and127 (x := x.toNat) (by omega)
      have w4 : IntKind.i64.wrap (7 * (j : Int)) = ((7 * j : Nat) : Int) := by rw [wrap_in (by omega) (by omega)]; omega
      have w4' : IntKind.u64.wrap ((7 * j : Nat) : Int) = ((7 * j : Nat) : Int) := Go.IntWalk.u64_in _ (by omega)
      have e : (128 : Nat) ^ j = 2 ^ (7 * j) := by rw [Nat.pow_mul]
      have hm1 : x.toNat % 128 * 128 ^ j ≤ 127 * 16384 := Nat.mul_le_mul (by omega) hp
      have e2 := shl64 (r := x.toNat % 128) (s := 7 * j) (by omega) (by rw [← e]; omega)
      rw [← e] at e2
      have e3 := or_add (y := x.toNat % 128) hacc (by omega) (by omega)
      simp only [hx] at hI
      rw [← accN_get hx] at e3 hI
      by_cases h4 : 128 ≤ x.toNat
      · have h4' : ((x.toNat : Int) > 127) = True := by simp only [eq_iff_iff, iff_true]; omega
        rw [if_pos h4] at hI
        simp only [go_sem, Nat.reduceLT, Nat.reduceAdd, Nat.reduceSub, Nat.reduceEqDiff, Nat.reduceLeDiff, Int.reduceEq, Int.reduceBEq, Int.reduceBNe, Int.reduceNeg, UInt8.reduceToNat, Nat.reduceBEq, h1', h0, h2, w2, h3, hx, bpv, w3, e1, w4, w4', e2, e3, h4', hw]
        exact fin rfl ⟨by omega, by rw [hk']; exact hI⟩
      · have h4' : ((x.toNat : Int) > 127) = False := by simp only [eq_iff_iff, iff_false]; omega
        rw [if_neg h4] at hI
        have w7 : IntKind.i64.wrap (((a + j : Nat) : Int) + 1) = ((a + j + 1 : Nat) : Int) := by rw [wrap_in (by omega) (by omega)]; omega
        by_cases h6 : 0 < j
        · have h6' : ((j : Int) > 0) = True := by simp only [eq_iff_iff, iff_true]; omega
          by_cases h5 : x.toNat = 0
          · have h5' : ((x.toNat : Int) == 0) = true := by rw [h5]; rfl
            rw [if_pos (.inr ⟨h5, h6⟩)] at hI
            rw [hI]
            simp only [go_sem, Nat.reduceLT, Nat.reduceAdd, Nat.reduceSub, Nat.reduceEqDiff, Nat.reduceLeDiff, Int.reduceEq, Int.reduceBEq, Int.reduceBNe, Int.reduceNeg, UInt8.reduceToNat, Nat.reduceBEq, h1', h0, h2, w2, h3, hx, bpv, w3, e1, w4, w4', e2, e3, h4', h6', h5', tup3, numCs]
          · have h5' : ((x.toNat : Int) == 0) = false := by simp; omega
            by_cases h7 : 1000000 < accN b a (j + 1)
            · have h7' : ((accN b a (j + 1) : Int) > 1000000) = True := by simp only [eq_iff_iff, iff_true]; omega
              rw [if_pos (.inl h7)] at hI
              rw [hI]
              simp only [go_sem, Nat.reduceLT, Nat.reduceAdd, Nat.reduceSub, Nat.reduceEqDiff, Nat.reduceLeDiff, Int.reduceEq, Int.reduceBEq, Int.reduceBNe, Int.reduceNeg, UInt8.reduceToNat, Nat.reduceBEq, h1', h0, h2, w2, h3, hx, bpv, w3, e1, w4, w4', e2, e3, h4', h6', h5', h7', tup3, numCs]
            · have h7' : ((accN b a (j + 1) : Int) > 1000000) = False := by simp only [eq_iff_iff, iff_false]; omega
              rw [if_neg (by omega)] at hI
              rw [hI]
              simp only [go_sem, Nat.reduceLT, Nat.reduceAdd, Nat.reduceSub, Nat.reduceEqDiff, Nat.reduceLeDiff, Int.reduceEq, Int.reduceBEq, Int.reduceBNe, Int.reduceNeg, UInt8.reduceToNat, Nat.reduceBEq, h1', h0, h2, w2, h3, hx, bpv, w3, e1, w4, w4', e2, e3, h4', h6', h5', h7', w7, tup3, numCs]
        · have h6' : ((j : Int) > 0) = False := by simp only [eq_iff_iff, iff_false]; omega
          by_cases h7 : 1000000 < accN b a (j + 1)
          · have h7' : ((accN b a (j + 1) : Int) > 1000000) = True := by simp only [eq_iff_iff, iff_true]; omega
            rw [if_pos (.inl h7)] at hI
            rw [hI]
            simp only [go_sem, Nat.reduceLT, Nat.reduceAdd, Nat.reduceSub, Nat.reduceEqDiff, Nat.reduceLeDiff, Int.reduceEq, Int.reduceBEq, Int.reduceBNe, Int.reduceNeg, UInt8.reduceToNat, Nat.reduceBEq, h1', h0, h2, w2, h3, hx, bpv, w3, e1, w4, w4', e2, e3, h4', h6', h7', tup3, numCs]
          · have h7' : ((accN b a (j + 1) : Int) > 1000000) = False := by simp only [eq_iff_iff, iff_false]; omega
            rw [if_neg (by omega)] at hI
            rw [hI]
            simp only [go_sem, Nat.reduceLT, Nat.reduceAdd, Nat.reduceSub, Nat.reduceEqDiff, Nat.reduceLeDiff, Int.reduceEq, Int.reduceBEq, Int.reduceBNe, Int.reduceNeg, UInt8.reduceToNat, Nat.reduceBEq, h1', h0, h2, w2, h3, hx, bpv, w3, e1, w4, w4', e2, e3, h4', h6', h7', w7, tup3, numCs]
  · have h1' : ((3 : Int) < 3) = False := by simp
    rw [hI.2]
    simp only [go_sem, Nat.reduceLT, Nat.reduceAdd, Nat.reduceSub, Nat.reduceEqDiff, Nat.reduceLeDiff, Int.reduceEq, Int.reduceBEq, Int.reduceBNe, Int.reduceNeg, UInt8.reduceToNat, Nat.reduceBEq, h1', getGo, tup3, numCs]

/-- A text at place a. -/
def getT (b : List UInt8) (a : Nat) : Option (List UInt8 × Nat) := match getN b a with
  | none => none
  | some (v, q) => if b.length < q + v then none else some ((b.drop q).take v, q + v)
theorem getT_lt {b : List UInt8} {a q : Nat} {s : List UInt8} (h : getT b a = some (s, q)) : q ≤ b.length ∧ a < q ∧ s.length < q := by
  unfold getT at h
  split at h
  · simp at h
  · rename_i v r hr
    have h0 := getN_lt hr
    split at h
    · simp at h
    · injection h with h; injection h with h1 h2
      subst h1; subst h2
      simp only [List.length_take, List.length_drop]
      omega
def txtCs (r : Option (List UInt8 × Nat)) : List CV := match r with
  | some (s, q) => [.sh false (.t ⟨s.toArray⟩), .sh false (.i .i64 (q : Int)), .sh false (.b true)]
  | none => [.sh false (.t ⟨#[]⟩), .sh false (.i .i64 0), .sh false (.b false)]
theorem getTextI_ok (n : Nat) (hn : Big + 2 ≤ n) (b : List UInt8) (hb : b.length ≤ 4398046511104) (a : Nat) (ha : a ≤ b.length) : pcall env n 72 [.c .one [.sh true (.s 1 ((b).map bpv))], .c .one [.sh false (.i .i64 (a : Nat))]] [] = some ⟨tup3 (txtCs (getT b a)), []⟩ := by
  refine walk (fn := Tryd.f72) (d := 1) hn rfl rfl rfl (Nat.le_of_ble_eq_true rfl) fun m hd => ?_
  unfold Tryd.f72
  have hc := getNumI_ok m (hd (by decide)) b hb a ha
  unfold getT
  cases hg : getN b a with
  | none =>
    simp only [hg, tup3, numCs] at hc
    simp only [go_sem, Nat.reduceLT, Nat.reduceAdd, Nat.reduceSub, Nat.reduceEqDiff, Nat.reduceLeDiff, Int.reduceEq, Int.reduceBEq, Int.reduceBNe, Int.reduceNeg, UInt8.reduceToNat, Nat.reduceBEq, hc, tup3, txtCs]
  | some r =>
    obtain ⟨v, q⟩ := r
    have hlt := getN_lt hg
    simp only [hg, tup3, numCs] at hc
    have w1 : IntKind.i64.wrap ((b.length : Int) - q) = ((b.length - q : Nat) : Int) := by rw [wrap_in (by omega) (by omega)]; omega
    by_cases h1 : b.length < q + v
    · have h1' : ((v : Int) > ((b.length - q : Nat) : Int)) = True := by simp only [eq_iff_iff, iff_true]; omega
      simp only [go_sem, Nat.reduceLT, Nat.reduceAdd, Nat.reduceSub, Nat.reduceEqDiff, Nat.reduceLeDiff, Int.reduceEq, Int.reduceBEq, Int.reduceBNe, Int.reduceNeg, UInt8.reduceToNat, Nat.reduceBEq, hc, w1, h1', h1, tup3, txtCs]
    · have h1' : ((v : Int) > ((b.length - q : Nat) : Int)) = False := by simp only [eq_iff_iff, iff_false]; omega
      have w2 : IntKind.i64.wrap ((q : Int) + v) = ((q + v : Nat) : Int) := by rw [wrap_in (by omega) (by omega)]; omega
      have g1 : (((q + v : Nat) : Int) ≤ (b.length : Int)) = True := by simp only [eq_iff_iff, iff_true]; omega
      have g2 : ((q : Int) ≤ ((q + v : Nat) : Int)) = True := by simp only [eq_iff_iff, iff_true]; omega
      have e1 : ((b.map bpv).take (q + v)).drop q = ((b.drop q).take v).map bpv := by rw [← List.map_take, ← List.map_drop, List.drop_take]; congr 2; omega
      simp only [go_sem, Nat.reduceLT, Nat.reduceAdd, Nat.reduceSub, Nat.reduceEqDiff, Nat.reduceLeDiff, Int.reduceEq, Int.reduceBEq, Int.reduceBNe, Int.reduceNeg, UInt8.reduceToNat, Nat.reduceBEq, hc, w1, h1', h1, w2, g1, g2, e1, bytes_map, tup3, txtCs]
theorem getTextS_ok (n : Nat) (hn : Big + 2 ≤ n) (b : List UInt8) (hb : b.length ≤ 4398046511104) (a : Nat) (ha : a ≤ b.length) : pcall env n 70 [.c .one [.sh true (.s 1 ((b).map bpv))], .c .one [.sh false (.i .i64 (a : Nat))]] [] = some ⟨tup3 (txtCs (getT b a)), []⟩ := by
  refine walk (fn := Tryd.f70) (d := 1) hn rfl rfl rfl (Nat.le_of_ble_eq_true rfl) fun m hd => ?_
  unfold Tryd.f70
  have hc := getNumS_ok m (hd (by decide)) b hb a ha
  unfold getT
  cases hg : getN b a with
  | none =>
    simp only [hg, tup3, numCs] at hc
    simp only [go_sem, Nat.reduceLT, Nat.reduceAdd, Nat.reduceSub, Nat.reduceEqDiff, Nat.reduceLeDiff, Int.reduceEq, Int.reduceBEq, Int.reduceBNe, Int.reduceNeg, UInt8.reduceToNat, Nat.reduceBEq, hc, tup3, txtCs]
  | some r =>
    obtain ⟨v, q⟩ := r
    have hlt := getN_lt hg
    simp only [hg, tup3, numCs] at hc
    have w1 : IntKind.i64.wrap ((b.length : Int) - q) = ((b.length - q : Nat) : Int) := by rw [wrap_in (by omega) (by omega)]; omega
    by_cases h1 : b.length < q + v
    · have h1' : ((v : Int) > ((b.length - q : Nat) : Int)) = True := by simp only [eq_iff_iff, iff_true]; omega
      simp only [go_sem, Nat.reduceLT, Nat.reduceAdd, Nat.reduceSub, Nat.reduceEqDiff, Nat.reduceLeDiff, Int.reduceEq, Int.reduceBEq, Int.reduceBNe, Int.reduceNeg, UInt8.reduceToNat, Nat.reduceBEq, hc, w1, h1', h1, tup3, txtCs]
    · have h1' : ((v : Int) > ((b.length - q : Nat) : Int)) = False := by simp only [eq_iff_iff, iff_false]; omega
      have w2 : IntKind.i64.wrap ((q : Int) + v) = ((q + v : Nat) : Int) := by rw [wrap_in (by omega) (by omega)]; omega
      have g1 : (((q + v : Nat) : Int) ≤ (b.length : Int)) = True := by simp only [eq_iff_iff, iff_true]; omega
      have g2 : ((q : Int) ≤ ((q + v : Nat) : Int)) = True := by simp only [eq_iff_iff, iff_true]; omega
      have e1 : ((b.map bpv).take (q + v)).drop q = ((b.drop q).take v).map bpv := by rw [← List.map_take, ← List.map_drop, List.drop_take]; congr 2; omega
      simp only [go_sem, Nat.reduceLT, Nat.reduceAdd, Nat.reduceSub, Nat.reduceEqDiff, Nat.reduceLeDiff, Int.reduceEq, Int.reduceBEq, Int.reduceBNe, Int.reduceNeg, UInt8.reduceToNat, Nat.reduceBEq, hc, w1, h1', h1, w2, g1, g2, e1, bytes_map, tup3, txtCs]
end Go.Proofs.YtblelojdboefjaaDoor.R
