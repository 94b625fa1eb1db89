/- Numbers and texts read of bytes. -/
import Derived.Test.YtblelojdboefjaaDoorCa
set_option maxRecDepth 100000
set_option linter.unusedVariables false
set_option linter.unusedSimpArgs false
namespace Go.Proofs.YtblelojdboefjaaDoor.R
open Go

/-- A number at place a, k bytes of it still to come, i read, which make acc. -/
def getGo (b : List UInt8) (a : Nat) : Nat → Nat → Nat → Option (Nat × Nat)
  | 0, _, _ => none
  | k + 1, i, acc => match b[a + i]? with
    | none => none
    | some x => if 128 ≤ x.toNat then getGo b a k (i + 1) (acc + x.toNat % 128 * 128 ^ i)
      else if 1000000 < acc + x.toNat % 128 * 128 ^ i ∨ (x.toNat = 0 ∧ 0 < i) then none else some (acc + x.toNat % 128 * 128 ^ i, a + i + 1)
def getN (b : List UInt8) (a : Nat) : Option (Nat × Nat) := getGo b a 3 0 0
/-- What the first i bytes make. -/
def accN (b : List UInt8) (a : Nat) : Nat → Nat
  | 0 => 0
  | i + 1 => accN b a i + (b.getD (a + i) 0).toNat % 128 * 128 ^ i
theorem accN_lt (b : List UInt8) (a : Nat) : ∀ i, accN b a i < 128 ^ i
  | 0 => by simp [accN]
  | i + 1 => by
    have h1 := accN_lt b a i
    have h2 : (b.getD (a + i) 0).toNat % 128 ≤ 127 := by omega
    have h3 : (b.getD (a + i) 0).toNat % 128 * 128 ^ i ≤ 127 * 128 ^ i := Nat.mul_le_mul_right _ h2
    have h4 : 128 ^ (i + 1) = 127 * 128 ^ i + 128 ^ i := by rw [Nat.pow_succ]; omega
    simp only [accN]
    omega
theorem accN_get {b : List UInt8} {a i : Nat} {x : UInt8} (h : b[a + i]? = some x) : accN b a (i + 1) = accN b a i + x.toNat % 128 * 128 ^ i := by
  simp only [accN, List.getD_eq_getElem?_getD, h, Option.getD_some]
theorem getGo_lt {b : List UInt8} {a : Nat} : ∀ (k i acc : Nat) {v q : Nat}, getGo b a k i acc = some (v, q) → v ≤ 1000000 ∧ q ≤ b.length ∧ a + i < q
  | 0, i, acc, v, q, h => by simp [getGo] at h
  | k + 1, i, acc, v, q, h => by
    unfold getGo at h
    split at h
    · simp at h
    · rename_i x hx
      have hlt := (List.getElem?_eq_some_iff.1 hx).1
      split at h
      · have := getGo_lt k (i + 1) _ h; omega
      · split at h
        · simp at h
        · rename_i hc
          injection h with h; injection h with h1 h2
          subst h1; subst h2
          omega
theorem getN_lt {b : List UInt8} {a v q : Nat} (h : getN b a = some (v, q)) : v ≤ 1000000 ∧ q ≤ b.length ∧ a < q := by
  have := getGo_lt 3 0 0 h; omega
/-- What is answered: the number, where it ends, whether there is one. -/
def numCs (r : Option (Nat × Nat)) : List CV := match r with
  | some (v, q) => [.sh false (.i .i64 (v : Int)), .sh false (.i .i64 (q : Int)), .sh false (.b true)]
  | none => [.sh false (.i .i64 0), .sh false (.i .i64 0), .sh false (.b false)]
def tup3 (l : List CV) : SV := .c (.tup [(false, 1), (false, 1), (false, 1)]) l

set_option maxHeartbeats 1000000 in
theorem getNumI_ok (n : Nat) (hn : Big + 1 ≤ n) (b : List UInt8) (hb : b.length ≤ 4398046511104) (a : Nat) (ha : a ≤ b.length) : pcall env n 71 [.c .one [.sh true (.s 1 ((b).map bpv))], .c .one [.sh false (.i .i64 (a : Nat))]] [] = some ⟨tup3 (numCs (getN b a)), []⟩ := by
  refine walk (fn := Tryd.f71) (d := 0) hn rfl rfl rfl (Nat.le_of_ble_eq_true rfl) fun m hd => ?_
  unfold Tryd.f71
  have h0 : ((a : Int) < 0) = False := by simp
  simp only [go_sem, Nat.reduceLT, Nat.reduceAdd, Nat.reduceSub, Nat.reduceEqDiff, Nat.reduceLeDiff, Int.reduceEq, Int.reduceBEq, Int.reduceBNe, Int.reduceNeg, UInt8.reduceToNat, Nat.reduceBEq, h0]
  refine wq_count 3 (fun j => slots 57 [(0, .c .one [.sh true (.s 1 ((b).map bpv))]), (1, .c .one [.sh false (.i .i64 (a : Nat))]), (7, .c .one [.sh false (.i .i64 (accN b a j : Nat))]), (8, .c .one [.sh false (.i .i64 ((128 ^ j : Nat) : Int))]), (9, .c .one [.sh false (.i .i64 (j : Nat))])]) (fun j => j ≤ 3 ∧ getN b a = getGo b a (3 - j) j (accN b a j)) (hd (Nat.zero_le _)) (by decide) ?_ (fun j hj h1 hw hI => ?_) (fun hI => ?_)
  · simp only [go_sem, Nat.reduceLT, Nat.reduceAdd, Nat.reduceSub, Nat.reduceEqDiff, Nat.reduceLeDiff, Int.reduceEq, Int.reduceBEq, Int.reduceBNe, Int.reduceNeg, UInt8.reduceToNat, Nat.reduceBEq]; exact fin rfl ⟨by decide, rfl⟩
  · have h1' : ((j : Int) < 3) = True := h1
    have w1 : IntKind.i64.wrap ((b.length : Int) - j) = (b.length : Int) - j := wrap_in (by omega) (by omega)
    have hacc := accN_lt b a j
    have hp : 128 ^ j ≤ 16384 := Nat.pow_le_pow_right (by decide) (show j ≤ 2 by omega)
    obtain ⟨k, hk⟩ : ∃ k, 3 - j = k + 1 := ⟨3 - j - 1, by omega⟩
    have hk' : 3 - (j + 1) = k := by omega
    obtain ⟨_, hI⟩ := hI
    rw [hk] at hI
    unfold getGo at hI
    cases hx : b[a + j]? with
    | none =>
      have hge : b.length ≤ a + j := by simpa using hx
      have h2 : ((a : Int) < (b.length : Int) - j) = False := by simp only [eq_iff_iff, iff_false]; omega
      simp only [hx] at hI
      rw [hI]
      simp only [go_sem, Nat.reduceLT, Nat.reduceAdd, Nat.reduceSub, Nat.reduceEqDiff, Nat.reduceLeDiff, Int.reduceEq, Int.reduceBEq, Int.reduceBNe, Int.reduceNeg, UInt8.reduceToNat, Nat.reduceBEq, h1', w1, h2, tup3, numCs]
    | some x =>
      have hlt := (List.getElem?_eq_some_iff.1 hx).1
      have h2 : ((a : Int) < (b.length : Int) - j) = True := by simp only [eq_iff_iff, iff_true]; omega
      have w2 : IntKind.i64.wrap ((a : Int) + j) = ((a + j : Nat) : Int) := by rw [wrap_in (by omega) (by omega)]; omega
      have hxl := x.toNat_lt
      have w3 : IntKind.i64.wrap (x.toNat : Int) = x.toNat := wrap_in (by omega) (by omega)
      have e1 : (x.toNat : Int).tmod 128 = ((x.toNat % 128 : Nat) : Int) := rfl
      have hm1 : x.toNat % 128 * 128 ^ j ≤ 127 * 16384 := Nat.mul_le_mul (by omega) hp
      have w4 : IntKind.i64.wrap (((x.toNat % 128 : Nat) : Int) * ((128 ^ j : Nat) : Int)) = ((x.toNat % 128 * 128 ^ j : Nat) : Int) := by rw [← Int.natCast_mul, wrap_in (by omega) (by omega)]
      have w5 : IntKind.i64.wrap ((accN b a j : Int) + ((x.toNat % 128 * 128 ^ j : Nat) : Int)) = ((accN b a j + x.toNat % 128 * 128 ^ j : Nat) : Int) := by rw [wrap_in (by omega) (by omega)]; omega
      have w6 : IntKind.i64.wrap (((128 ^ j : Nat) : Int) * 128) = ((128 ^ (j + 1) : Nat) : Int) := by rw [Nat.pow_succ, wrap_in (by omega) (by omega)]; simp
      simp only [hx] at hI
      rw [← accN_get hx] at w5 hI
      by_cases h3 : 128 ≤ x.toNat
      · have h3' : ((x.toNat : Int) ≥ 128) = True := by simp only [eq_iff_iff, iff_true]; omega
        rw [if_pos h3] at hI
        simp only [go_sem, Nat.reduceLT, Nat.reduceAdd, Nat.reduceSub, Nat.reduceEqDiff, Nat.reduceLeDiff, Int.reduceEq, Int.reduceBEq, Int.reduceBNe, Int.reduceNeg, UInt8.reduceToNat, Nat.reduceBEq, h1', w1, h2, w2, hx, bpv, w3, e1, w4, w5, w6, h3', hw]
        exact fin rfl ⟨by omega, by rw [hk']; exact hI⟩
      · have h3' : ((x.toNat : Int) ≥ 128) = False := by simp only [eq_iff_iff, iff_false]; omega
        rw [if_neg h3] at hI
        have w7 : IntKind.i64.wrap (((a + j : Nat) : Int) + 1) = ((a + j + 1 : Nat) : Int) := by rw [wrap_in (by omega) (by omega)]; omega
        by_cases h4 : 1000000 < accN b a (j + 1)
        · have h4' : ((accN b a (j + 1) : Int) > 1000000) = True := by simp only [eq_iff_iff, iff_true]; omega
          rw [if_pos (.inl h4)] at hI; rw [hI]
          simp only [go_sem, Nat.reduceLT, Nat.reduceAdd, Nat.reduceSub, Nat.reduceEqDiff, Nat.reduceLeDiff, Int.reduceEq, Int.reduceBEq, Int.reduceBNe, Int.reduceNeg, UInt8.reduceToNat, Nat.reduceBEq, h1', w1, h2, w2, hx, bpv, w3, e1, w4, w5, w6, h3', h4', tup3, numCs]
        · have h4' : ((accN b a (j + 1) : Int) > 1000000) = False := by simp only [eq_iff_iff, iff_false]; omega
          by_cases h5 : x.toNat = 0
          · have h5' : ((x.toNat : Int) == 0) = true := by rw [h5]; rfl
            by_cases h6 : 0 < j
            · have h6' : ((j : Int) > 0) = True := by simp only [eq_iff_iff, iff_true]; omega
              rw [if_pos (.inr ⟨h5, h6⟩)] at hI; rw [hI]
              simp only [go_sem, Nat.reduceLT, Nat.reduceAdd, Nat.reduceSub, Nat.reduceEqDiff, Nat.reduceLeDiff, Int.reduceEq, Int.reduceBEq, Int.reduceBNe, Int.reduceNeg, UInt8.reduceToNat, Nat.reduceBEq, h1', w1, h2, w2, hx, bpv, w3, e1, w4, w5, w6, h3', h4', h5', h6', tup3, numCs]
            · have h6' : ((j : Int) > 0) = False := by simp only [eq_iff_iff, iff_false]; omega
              rw [if_neg (by omega)] at hI; rw [hI]
              simp only [go_sem, Nat.reduceLT, Nat.reduceAdd, Nat.reduceSub, Nat.reduceEqDiff, Nat.reduceLeDiff, Int.reduceEq, Int.reduceBEq, Int.reduceBNe, Int.reduceNeg, UInt8.reduceToNat, Nat.reduceBEq, h1', w1, h2, w2, hx, bpv, w3, e1, w4, w5, w6, h3', h4', h5', h6', w7, tup3, numCs]
          · have h5' : ((x.toNat : Int) == 0) = false := by simp; omega
            rw [if_neg (by omega)] at hI; rw [hI]
            simp only [go_sem, Nat.reduceLT, Nat.reduceAdd, Nat.reduceSub, Nat.reduceEqDiff, Nat.reduceLeDiff, Int.reduceEq, Int.reduceBEq, Int.reduceBNe, Int.reduceNeg, UInt8.reduceToNat, Nat.reduceBEq, h1', w1, h2, w2, hx, bpv, w3, e1, w4, w5, w6, h3', h4', h5', w7, tup3, numCs]
  · have h1' : ((3 : Int) < 3) = False := by simp
    rw [hI.2]
    simp only [go_sem, Nat.reduceLT, Nat.reduceAdd, Nat.reduceSub, Nat.reduceEqDiff, Nat.reduceLeDiff, Int.reduceEq, Int.reduceBEq, Int.reduceBNe, Int.reduceNeg, UInt8.reduceToNat, Nat.reduceBEq, h1', getGo, tup3, numCs]
end Go.Proofs.YtblelojdboefjaaDoor.R
