/- Numbers as text: both programs write the decimal digits. -/
import Derived.Test.YticgilhndadkiaaGreatDoorF
import Derived.Test.YticgilhndadkiaaGreatDoorM5
set_option maxRecDepth 100000
set_option linter.unusedVariables false
set_option linter.unusedSimpArgs false
namespace Go.Proofs.YticgilhndadkiaaGreatDoor.R
open Go

theorem digit64 {k : Nat} (h : k < 10) : IntKind.i64.wrap (48 + (k : Int)) = ((48 + k : Nat) : Int) := by rw [wrap_in (by omega) (by omega)]; omega
theorem digit8 {k : Nat} (h : k < 10) : IntKind.u8.wrap ((48 + k : Nat) : Int) = ((48 + k : Nat) : Int) := Go.IntWalk.u8_in _ (by omega)
theorem digit32 {k : Nat} (h : k < 10) : IntKind.i32.wrap ((48 + k : Nat) : Int) = ((48 + k : Nat) : Int) := Go.IntWalk.i32_in _ (by omega)
theorem quo10 (k : Nat) (hk : k ≤ 4611686018427387904) : IntKind.i64.wrap ((k : Int).tdiv 10) = ((k / 10 : Nat) : Int) := by
  have : (k : Int).tdiv 10 = ((k / 10 : Nat) : Int) := rfl
  rw [this, wrap_in (by omega) (by omega)]
theorem rem10 (k : Nat) : (k : Int).tmod 10 = ((k % 10 : Nat) : Int) := rfl
theorem encode_digit {k : Nat} (h : k < 10) : Utf8.encode ((48 + k : Nat) : Int) = ⟨#[UInt8.ofNat (48 + k)]⟩ := by
  rw [encode_one (by omega) (by omega), Int.toNat_natCast]

theorem l28Num_ok (k : Nat) : k ≤ 4611686018427387904 → ∀ (n : Nat), Big + (k + 1) ≤ n → pcall env n 24 [pvSV (.i .i64 (k : Nat))] [] = some ⟨pvSV (.t (dec k)), []⟩ := by
  induction k using Nat.strongRecOn with
  | ind k ih =>
    intro hk n hn
    obtain ⟨m, rfl⟩ := ex_pred hn
    refine wq_eq (wq_pcall (fn := Tryz.f24) rfl rfl rfl (Nat.le_of_ble_eq_true rfl) ?_)
    unfold Tryz.f24
    by_cases h : k < 10
    · have h1 : ((k : Int) < 10) := by omega
      simp only [go_sem, Nat.reduceLT, Nat.reduceAdd, Nat.reduceSub, Nat.reduceEqDiff, Nat.reduceLeDiff, h1]
      rw [digit64 h, digit8 h, Int.toNat_natCast, dec_lt h]
    · have h1 : ¬ ((k : Int) < 10) := by omega
      have hm := Nat.mod_lt k (show 0 < 10 by omega)
      have hc := ih (k / 10) (by omega) (by omega) m (by omega)
      have hs := dec_size (k / 10)
      simp only [go_sem] at hc
      simp (disch := (try simp only [ByteArray.size_append, size_lit, List.length_cons, List.length_nil]); omega) only [go_sem, cat_ok, Nat.reduceLT, Nat.reduceAdd, Nat.reduceSub, Nat.reduceEqDiff, Nat.reduceLeDiff, Int.reduceEq, h1, quo10 k hk, rem10, digit64 hm, digit8 hm, hc]
      exact chk (by kernel_rfl) (by rw [dec_ge h])

theorem number_ok (k : Nat) : k ≤ 4611686018427387904 → ∀ (n : Nat), Big + (k + 1) ≤ n → pcall env n 27 [pvSV (.i .i64 (k : Nat))] [] = some ⟨pvSV (.t (dec k)), []⟩ := by
  induction k using Nat.strongRecOn with
  | ind k ih =>
    intro hk n hn
    obtain ⟨m, rfl⟩ := ex_pred hn
    refine wq_eq (wq_pcall (fn := Tryz.f27) rfl rfl rfl (Nat.le_of_ble_eq_true rfl) ?_)
    unfold Tryz.f27
    have h0 : ¬ ((k : Int) < 0) := by omega
    by_cases h : k < 10
    · have h1 : ((k : Int) < 10) := by omega
      simp only [go_sem, Nat.reduceLT, Nat.reduceAdd, Nat.reduceSub, Nat.reduceEqDiff, Nat.reduceLeDiff, Int.reduceEq, h0, h1, digit64 h, digit32 h, encode_digit h, dec_lt h]
    · have h1 : ¬ ((k : Int) < 10) := by omega
      have hm := Nat.mod_lt k (show 0 < 10 by omega)
      have hc := ih (k / 10) (by omega) (by omega) m (by omega)
      have hs := dec_size (k / 10)
      simp only [go_sem] at hc
      simp (disch := (try simp only [ByteArray.size_append, size_lit, List.length_cons, List.length_nil]); omega) only [go_sem, cat_ok, Nat.reduceLT, Nat.reduceAdd, Nat.reduceSub, Nat.reduceEqDiff, Nat.reduceLeDiff, Int.reduceEq, h0, h1, quo10 k hk, rem10, digit64 hm, digit32 hm, encode_digit hm, hc]
      rw [dec_ge h]
end Go.Proofs.YticgilhndadkiaaGreatDoor.R
