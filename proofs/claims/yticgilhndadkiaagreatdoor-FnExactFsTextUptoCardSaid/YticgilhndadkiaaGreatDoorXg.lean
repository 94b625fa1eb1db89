/- Numbers of any size as text: both programs write the same. -/
import Derived.Test.YticgilhndadkiaaGreatDoorXf
set_option maxRecDepth 100000
set_option linter.unusedVariables false
set_option linter.unusedSimpArgs false
namespace Go.Proofs.YticgilhndadkiaaGreatDoor.R
open Go

theorem quoN (k : Nat) (hk : k ≤ 9223372036854775807) : IntKind.i64.wrap ((k : Int).tdiv 10) = ((k / 10 : Nat) : Int) := by
  have : (k : Int).tdiv 10 = ((k / 10 : Nat) : Int) := rfl
  rw [this, wrap_in (by omega) (by omega)]
theorem div_pow {k d : Nat} (h : k < 10 ^ (d + 1 + 1)) : k / 10 < 10 ^ (d + 1) := by
  rw [Nat.pow_succ] at h
  generalize 10 ^ (d + 1) = P at h ⊢
  omega
theorem pow_pred {k d : Nat} (h : k < 10 ^ (d + 1)) (h1 : ¬ k < 10) : ∃ e, d = e + 1 := by
  cases d with
  | zero => exact absurd (by simpa using h) h1
  | succ d => exact ⟨d, rfl⟩
theorem dec_digits : ∀ (d k : Nat), k < 10 ^ (d + 1) → (dec k).size ≤ d + 1
  | 0, k, h => by
    have h1 : k < 10 := by simpa using h
    rw [dec_lt h1]; show 1 ≤ 0 + 1; omega
  | d + 1, k, h => by
    by_cases h1 : k < 10
    · rw [dec_lt h1]; show 1 ≤ d + 1 + 1; omega
    · have := dec_digits d (k / 10) (div_pow h)
      rw [dec_ge h1, ByteArray.size_append]
      have e : (⟨#[UInt8.ofNat (48 + k % 10)]⟩ : ByteArray).size = 1 := rfl
      omega

theorem l28NumD (d : Nat) : ∀ k : Nat, k < 10 ^ (d + 1) → k ≤ 9223372036854775807 → ∀ (n : Nat), Big + (d + 1) ≤ n → pcall env n 24 [pvSV (.i .i64 (k : Nat))] [] = some ⟨pvSV (.t (dec k)), []⟩ := by
  induction d using Nat.strongRecOn with
  | ind d ih =>
    intro k h hk n hn
    obtain ⟨m, rfl⟩ := ex_pred hn
    refine wq_eq (wq_pcall (fn := Tryz.f24) rfl rfl rfl (Nat.le_of_ble_eq_true rfl) ?_)
    unfold Tryz.f24
    by_cases h10 : k < 10
    · have h1 : ((k : Int) < 10) := by omega
      simp only [go_sem, Nat.reduceLT, Nat.reduceAdd, Nat.reduceSub, Nat.reduceEqDiff, Nat.reduceLeDiff, Int.reduceEq, Int.reduceBEq, Int.reduceBNe, Int.reduceNeg, UInt8.reduceToNat, Nat.reduceBEq, h1]
      rw [digit64 h10, digit8 h10, Int.toNat_natCast, dec_lt h10]
    · have h1 : ¬ ((k : Int) < 10) := by omega
      obtain ⟨e, rfl⟩ := pow_pred h h10
      have hm := Nat.mod_lt k (show 0 < 10 by omega)
      have hc := ih e (by omega) (k / 10) (div_pow h) (by omega) m (by omega)
      have hs := dec_size (k / 10)
      simp only [go_sem] at hc
      simp (disch := (try simp only [ByteArray.size_append, size_lit, List.length_cons, List.length_nil]); omega) only [go_sem, cat_ok, Nat.reduceLT, Nat.reduceAdd, Nat.reduceSub, Nat.reduceEqDiff, Nat.reduceLeDiff, Int.reduceEq, Int.reduceBEq, Int.reduceBNe, Int.reduceNeg, UInt8.reduceToNat, Nat.reduceBEq, h1, quoN k hk, rem10, digit64 hm, digit8 hm, hc]
      exact chk (by kernel_rfl) (by rw [dec_ge h10])

theorem numberD (d : Nat) : ∀ k : Nat, k < 10 ^ (d + 1) → k ≤ 9223372036854775807 → ∀ (n : Nat), Big + (d + 1) ≤ n → pcall env n 27 [pvSV (.i .i64 (k : Nat))] [] = some ⟨pvSV (.t (dec k)), []⟩ := by
  induction d using Nat.strongRecOn with
  | ind d ih =>
    intro k h hk n hn
    obtain ⟨m, rfl⟩ := ex_pred hn
    refine wq_eq (wq_pcall (fn := Tryz.f27) rfl rfl rfl (Nat.le_of_ble_eq_true rfl) ?_)
    unfold Tryz.f27
    have h0 : ¬ ((k : Int) < 0) := by omega
    by_cases h10 : k < 10
    · have h1 : ((k : Int) < 10) := by omega
      simp only [go_sem, Nat.reduceLT, Nat.reduceAdd, Nat.reduceSub, Nat.reduceEqDiff, Nat.reduceLeDiff, Int.reduceEq, Int.reduceBEq, Int.reduceBNe, Int.reduceNeg, UInt8.reduceToNat, Nat.reduceBEq, h0, h1, digit64 h10, digit32 h10, encode_digit h10, dec_lt h10]
    · have h1 : ¬ ((k : Int) < 10) := by omega
      obtain ⟨e, rfl⟩ := pow_pred h h10
      have hm := Nat.mod_lt k (show 0 < 10 by omega)
      have hc := ih e (by omega) (k / 10) (div_pow h) (by omega) m (by omega)
      have hs := dec_size (k / 10)
      simp only [go_sem] at hc
      simp (disch := (try simp only [ByteArray.size_append, size_lit, List.length_cons, List.length_nil]); omega) only [go_sem, cat_ok, Nat.reduceLT, Nat.reduceAdd, Nat.reduceSub, Nat.reduceEqDiff, Nat.reduceLeDiff, Int.reduceEq, Int.reduceBEq, Int.reduceBNe, Int.reduceNeg, UInt8.reduceToNat, Nat.reduceBEq, h0, h1, quoN k hk, rem10, digit64 hm, digit32 hm, encode_digit hm, hc]
      rw [dec_ge h10]

def whole (k : Int) : ByteArray := if k < 0 then ⟨⟨[45]⟩⟩ ++ dec k.natAbs else dec k.natAbs
theorem whole_nat (k : Nat) : whole (k : Int) = dec k := by unfold whole; rw [if_neg (by omega)]; rfl
theorem whole_neg {k : Nat} (h : 0 < k) : whole (-(k : Int)) = ⟨⟨[45]⟩⟩ ++ dec k := by
  unfold whole; rw [if_pos (by omega), Int.natAbs_neg]; rfl
theorem natAbs_lt {k : Int} (h : inR k) : k.natAbs < 10 ^ (18 + 1) := by
  unfold inR at h
  have : (10 : Nat) ^ (18 + 1) = 10000000000000000000 := by decide
  omega
theorem whole_size {k : Int} (h : inR k) : (whole k).size ≤ 20 := by
  have := dec_digits 18 k.natAbs (natAbs_lt h)
  unfold whole
  split
  · simp only [ByteArray.size_append, size_lit, List.length_cons, List.length_nil]; omega
  · omega
theorem whole_min : whole (-9223372036854775808) = ⟨⟨[45, 57, 50, 50, 51, 51, 55, 50, 48, 51, 54, 56, 53, 52, 55, 55, 53, 56, 48, 56]⟩⟩ := by
  have e : whole (-9223372036854775808) = ⟨⟨[45]⟩⟩ ++ dec 9223372036854775808 := rfl
  rw [e]
  iterate 18 rw [dec_ge (by decide)]
  rw [dec_lt (by decide)]
  rfl

theorem negI {k : Nat} (h : k ≤ 9223372036854775807) : IntKind.i64.wrap (0 - -(k : Int)) = (k : Nat) := by
  rw [wrap_in (by omega) (by omega)]; omega
theorem quoI {k : Nat} (h : k ≤ 9223372036854775808) : IntKind.i64.wrap ((-(k : Int)).tdiv 10) = -((k / 10 : Nat) : Int) := by
  have : (-(k : Int)).tdiv 10 = -((k / 10 : Nat) : Int) := by rw [Int.neg_tdiv]; rfl
  rw [this, wrap_in (by omega) (by omega)]
theorem remI {k : Nat} : (-(k : Int)).tmod 10 = -((k % 10 : Nat) : Int) := by rw [Int.neg_tmod]; rfl

theorem numberI (d : Nat) : ∀ k : Nat, 0 < k → k < 10 ^ (d + 1) → k ≤ 9223372036854775808 → ∀ (n : Nat), Big + (d + 2) ≤ n → pcall env n 27 [pvSV (.i .i64 (-(k : Int)))] [] = some ⟨pvSV (.t (⟨⟨[45]⟩⟩ ++ dec k)), []⟩ := by
  induction d using Nat.strongRecOn with
  | ind d ih =>
    intro k hp h hk n hn
    obtain ⟨m, rfl⟩ := ex_pred hn
    refine wq_eq (wq_pcall (fn := Tryz.f27) rfl rfl rfl (Nat.le_of_ble_eq_true rfl) ?_)
    unfold Tryz.f27
    have h0 : (-(k : Int) < 0) := by omega
    by_cases h10 : k < 10
    · have h1 : (-(k : Int) > -10) := by omega
      have hc := numberD 0 k (by simpa using h10) (by omega) m (by omega)
      simp only [go_sem] at hc
      have hs := dec_size k
      simp (disch := (try simp only [ByteArray.size_append, size_lit, List.length_cons, List.length_nil]); omega) only [go_sem, cat_ok, Nat.reduceLT, Nat.reduceAdd, Nat.reduceSub, Nat.reduceEqDiff, Nat.reduceLeDiff, Int.reduceEq, Int.reduceBEq, Int.reduceBNe, Int.reduceNeg, UInt8.reduceToNat, Nat.reduceBEq, h0, h1, negI (show k ≤ 9223372036854775807 by omega), hc]
    · have h1 : ¬ (-(k : Int) > -10) := by omega
      obtain ⟨e, rfl⟩ := pow_pred h h10
      have hm := Nat.mod_lt k (show 0 < 10 by omega)
      have hc := ih e (by omega) (k / 10) (by omega) (div_pow h) (by omega) m (by omega)
      have hc2 := numberD 0 (k % 10) (by simpa using hm) (by omega) m (by omega)
      have hs := dec_size (k / 10)
      have hs2 := dec_size (k % 10)
      simp only [go_sem] at hc hc2
      simp (disch := (try simp only [ByteArray.size_append, size_lit, List.length_cons, List.length_nil]); omega) only [go_sem, cat_ok, Nat.reduceLT, Nat.reduceAdd, Nat.reduceSub, Nat.reduceEqDiff, Nat.reduceLeDiff, Int.reduceEq, Int.reduceBEq, Int.reduceBNe, Int.reduceNeg, UInt8.reduceToNat, Nat.reduceBEq, h0, h1, quoI hk, remI, negI (show k % 10 ≤ 9223372036854775807 by omega), hc, hc2]
      rw [dec_ge h10, dec_lt hm, ByteArray.append_assoc]

theorem numberImpl_ok (n : Nat) (hn : Big + 20 ≤ n) (k : Int) (hk : inR k) : pcall env n 27 [pvSV (.i .i64 k)] [] = some ⟨pvSV (.t (whole k)), []⟩ := by
  have h := natAbs_lt hk
  unfold inR at hk
  rcases Int.natAbs_eq k with e | e
  · rw [e, whole_nat]
    exact numberD 18 _ h (by omega) n (by omega)
  · by_cases h0 : k.natAbs = 0
    · have : k = ((0 : Nat) : Int) := by omega
      rw [this, whole_nat]
      exact numberD 18 0 (by decide) (by decide) n (by omega)
    · rw [e, whole_neg (by omega)]
      exact numberI 18 _ (by omega) h (by omega) n (by omega)

theorem wholeSpec_ok (n : Nat) (hn : Big + 20 ≤ n) (k : Int) (hk : inR k) : pcall env n 23 [pvSV (.i .i64 k)] [] = some ⟨pvSV (.t (whole k)), []⟩ := by
  have h := natAbs_lt hk
  unfold inR at hk
  obtain ⟨m, rfl⟩ := ex_pred hn
  refine wq_eq (wq_pcall (fn := Tryz.f23) rfl rfl rfl (Nat.le_of_ble_eq_true rfl) ?_)
  unfold Tryz.f23
  by_cases hm : k = -9223372036854775808
  · subst hm
    rw [whole_min]
    simp only [go_sem, Nat.reduceLT, Nat.reduceAdd, Nat.reduceSub, Nat.reduceEqDiff, Nat.reduceLeDiff, Int.reduceEq, Int.reduceBEq, Int.reduceBNe, Int.reduceNeg, UInt8.reduceToNat, Nat.reduceBEq]
  · have h1 : (k == -9223372036854775808) = false := by simpa using hm
    by_cases h0 : k < 0
    · obtain ⟨j, rfl⟩ : ∃ j : Nat, k = -(j : Int) := ⟨k.natAbs, by omega⟩
      rw [Int.natAbs_neg, Int.natAbs_natCast] at h
      have hc := l28NumD 18 j h (by omega) m (by omega)
      simp only [go_sem] at hc
      have hs := dec_digits 18 j h
      rw [whole_neg (by omega)]
      simp (disch := (try simp only [ByteArray.size_append, size_lit, List.length_cons, List.length_nil]); omega) only [go_sem, cat_ok, Nat.reduceLT, Nat.reduceAdd, Nat.reduceSub, Nat.reduceEqDiff, Nat.reduceLeDiff, Int.reduceEq, Int.reduceBEq, Int.reduceBNe, Int.reduceNeg, UInt8.reduceToNat, Nat.reduceBEq, h0, h1, hm, negI (show j ≤ 9223372036854775807 by omega), hc]
    · obtain ⟨j, rfl⟩ : ∃ j : Nat, k = (j : Int) := ⟨k.natAbs, by omega⟩
      rw [Int.natAbs_natCast] at h
      have hc := l28NumD 18 j h (by omega) m (by omega)
      simp only [go_sem] at hc
      rw [whole_nat]
      simp only [go_sem, Nat.reduceLT, Nat.reduceAdd, Nat.reduceSub, Nat.reduceEqDiff, Nat.reduceLeDiff, Int.reduceEq, Int.reduceBEq, Int.reduceBNe, Int.reduceNeg, UInt8.reduceToNat, Nat.reduceBEq, h0, h1, hm, hc]

end Go.Proofs.YticgilhndadkiaaGreatDoor.R
