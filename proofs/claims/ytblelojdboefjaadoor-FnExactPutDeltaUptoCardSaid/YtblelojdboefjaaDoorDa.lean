/- Numbers and texts put behind bytes. -/
import Derived.Test.YtblelojdboefjaaDoorCk
set_option maxRecDepth 100000
set_option linter.unusedVariables false
set_option linter.unusedSimpArgs false
namespace Go.Proofs.YtblelojdboefjaaDoor.R
open Go

def vgo : Nat → Nat → List UInt8
  | 0, n => [UInt8.ofNat n]
  | k + 1, n => if n < 128 then [UInt8.ofNat n] else UInt8.ofNat (n % 128 + 128) :: vgo k (n / 128)
def clampN (n : Int) : Nat := if n < 0 then 0 else min n.toNat 1000000
/-- A number behind bytes. -/
def putN (b : List UInt8) (n : Int) : List UInt8 := b ++ vgo 2 (clampN n)
theorem clamp_le (n : Int) : clampN n ≤ 1000000 := by unfold clampN; split <;> omega
theorem vgo_len : ∀ k n, (vgo k n).length ≤ k + 1
  | 0, n => Nat.le_refl _
  | k + 1, n => by
    unfold vgo
    split
    · simp
    · have := vgo_len k (n / 128); simp only [List.length_cons]; omega
theorem putN_len (b : List UInt8) (n : Int) : (putN b n).length ≤ b.length + 3 := by
  unfold putN; rw [List.length_append]; have := vgo_len 2 (clampN n); omega
theorem snoc_map (b : List UInt8) (k : Nat) : b.map bpv ++ [[.i .u8 ((UInt8.ofNat k).toNat : Int)]] = (b ++ [UInt8.ofNat k]).map bpv := by simp [bpv]
theorem or128 {x : Nat} (hx : x < 128) : orI .i64 (x : Int) 128 = ((x + 128 : Nat) : Int) := by
  unfold orI
  rw [show (128 : Int) = ((128 : Nat) : Int) from rfl, bits_or (w := IntKind.i64.bits) (Nat.lt_trans hx (by decide)) (by decide)]
  have : x ||| 128 = x + 128 := by
    have := Nat.shiftLeft_add_eq_or_of_lt (i := 7) (b := x) hx 1
    rw [Nat.or_comm]
    rw [show (1 : Nat) <<< 7 = 128 from rfl] at this
    omega
  rw [this, wrap_in (by omega) (by omega)]
theorem putNumI_ok (n : Nat) (hn : Big + 2 ≤ n) (b : List UInt8) (hb : b.length ≤ 4398046511104) (v : Int) : pcall env n 31 [.c .one [.sh true (.s 1 ((b).map bpv))], .c .one [.sh false (.i .i64 (v))]] [] = some ⟨.c .one [.ow false 1 ((putN b v).map bpv)], []⟩ := by
  refine walk (fn := Tryd.f31) (d := 1) hn rfl rfl rfl (Nat.le_of_ble_eq_true rfl) fun m hd => ?_
  unfold Tryd.f31
  have hlim : LIM = 70368744177664 := rfl
  have hB : Big = 9223372036854775808 := rfl
  have hm := hd (Nat.zero_le _)
  have hc := cloneBytes_ok m (hd (by decide)) true b (by omega)
  have hcl := clamp_le v
  have e0 : (if (if (1000000 : Int) < v then (1000000 : Int) else v) > 0 then (if (1000000 : Int) < v then (1000000 : Int) else v) else 0) = ((clampN v : Nat) : Int) := by
    unfold clampN
    split <;> split <;> (try split) <;> omega
  simp only [go_sem, Nat.reduceLT, Nat.reduceAdd, Nat.reduceSub, Nat.reduceEqDiff, Nat.reduceLeDiff, Int.reduceEq, Int.reduceBEq, Int.reduceBNe, Int.reduceNeg, UInt8.reduceToNat, Nat.reduceBEq, hc, e0]
  refine wq_loop_at (fun k τ => ∃ (x : Nat) (out : List UInt8), x < 128 ^ (k + 1) ∧ k ≤ 2 ∧ out ++ vgo k x = putN b v ∧ out.length ≤ b.length + 2 - k ∧ x ≤ 1000000 ∧ τ = slots 27 [(1, .c .one [.sh false (.i .i64 (x : Nat))]), (5, .c .one [.ow false 1 (out.map bpv)])]) 2 (by omega) ?_ ?_
  · simp only [go_sem, Nat.reduceLT, Nat.reduceAdd, Nat.reduceSub, Nat.reduceEqDiff, Nat.reduceLeDiff, Int.reduceEq, Int.reduceBEq, Int.reduceBNe, Int.reduceNeg, UInt8.reduceToNat, Nat.reduceBEq]
    exact ⟨clampN v, b, by omega, rfl, Nat.le_refl _, hcl, rfl⟩
  · rintro k τ ⟨x, out, hx, hk, ho, hl, hx2, rfl⟩
    by_cases h1 : x < 128
    · have h1' : ((x : Int) ≥ 128) = False := by simp only [eq_iff_iff, iff_false]; omega
      have g1 : out.length + 1 ≤ LIM := by omega
      have ho' : out ++ [UInt8.ofNat x] = putN b v := by
        rw [← ho]
        cases k with
        | zero => rfl
        | succ k => unfold vgo; rw [if_pos h1]
      simp only [go_sem, Nat.reduceLT, Nat.reduceAdd, Nat.reduceSub, Nat.reduceEqDiff, Nat.reduceLeDiff, Int.reduceEq, Int.reduceBEq, Int.reduceBNe, Int.reduceNeg, UInt8.reduceToNat, Nat.reduceBEq, h1', u8w, snoc_map, g1, ho']
    · have h1' : ((x : Int) ≥ 128) = True := by simp only [eq_iff_iff, iff_true]; omega
      have g1 : out.length + 1 ≤ LIM := by omega
      obtain ⟨k, rfl⟩ : ∃ k', k = k' + 1 := by
        cases k with
        | zero => omega
        | succ k => exact ⟨k, rfl⟩
      have w1 : IntKind.i64.wrap ((x : Int).tmod 128 + 128) = ((x % 128 + 128 : Nat) : Int) := by
        rw [show (x : Int).tmod 128 = ((x % 128 : Nat) : Int) from rfl, wrap_in (by omega) (by omega)]; omega
      have w2 : IntKind.i64.wrap ((x : Int).tdiv 128) = ((x / 128 : Nat) : Int) := by
        rw [show (x : Int).tdiv 128 = ((x / 128 : Nat) : Int) from rfl, wrap_in (by omega) (by omega)]
      unfold vgo at ho
      rw [if_neg h1] at ho
      simp only [go_sem, Nat.reduceLT, Nat.reduceAdd, Nat.reduceSub, Nat.reduceEqDiff, Nat.reduceLeDiff, Int.reduceEq, Int.reduceBEq, Int.reduceBNe, Int.reduceNeg, UInt8.reduceToNat, Nat.reduceBEq, h1', w1, w2, u8w, snoc_map, g1]
      refine ⟨k, Nat.lt_succ_self _, x / 128, out ++ [UInt8.ofNat (x % 128 + 128)], ?_, by omega, by rw [← ho, List.append_assoc]; rfl, by rw [List.length_append]; simp only [List.length_cons, List.length_nil]; omega, by omega, rfl⟩
      rw [Nat.pow_succ] at hx
      omega
theorem putNumS_ok (n : Nat) (hn : Big + 1 ≤ n) (b : List UInt8) (hb : b.length ≤ 4398046511104) (v : Int) : pcall env n 22 [.c .one [.sh true (.s 1 ((b).map bpv))], .c .one [.sh false (.i .i64 (v))]] [] = some ⟨.c .one [.ow false 1 ((putN b v).map bpv)], []⟩ := by
  refine walk (fn := Tryd.f22) (d := 0) hn rfl rfl rfl (Nat.le_of_ble_eq_true rfl) fun m hd => ?_
  unfold Tryd.f22
  have hlim : LIM = 70368744177664 := rfl
  have hB : Big = 9223372036854775808 := rfl
  have hm := hd (Nat.zero_le _)
  have hcl := clamp_le v
  have g0 : b.length ≤ LIM := by omega
  have l1 : ((1000000 : Int) < 0) = False := by decide
  have hc3 : (((v > 1000000) = True ∧ (v < 0) = False) ∧ ((clampN v : Nat) : Int) = 1000000) ∨ (((v > 1000000) = False ∧ (v < 0) = True) ∧ ((clampN v : Nat) : Int) = 0) ∨ (((v > 1000000) = False ∧ (v < 0) = False) ∧ ((clampN v : Nat) : Int) = v) := by
    simp only [eq_iff_iff, iff_true, iff_false]
    by_cases c1 : v > 1000000
    · refine Or.inl ⟨⟨c1, by omega⟩, ?_⟩
      unfold clampN; split <;> omega
    · by_cases c2 : v < 0
      · refine Or.inr (Or.inl ⟨⟨c1, c2⟩, ?_⟩)
        unfold clampN; split <;> omega
      · refine Or.inr (Or.inr ⟨⟨c1, c2⟩, ?_⟩)
        unfold clampN; split <;> omega
  rcases hc3 with ⟨⟨c1, c2⟩, e1⟩ | ⟨⟨c1, c2⟩, e1⟩ | ⟨⟨c1, c2⟩, e1⟩
  all_goals
    simp only [go_sem, Nat.reduceLT, Nat.reduceAdd, Nat.reduceSub, Nat.reduceEqDiff, Nat.reduceLeDiff, Int.reduceEq, Int.reduceBEq, Int.reduceBNe, Int.reduceNeg, UInt8.reduceToNat, Nat.reduceBEq, g0, c1, c2, l1]
    refine wq_loop_at (fun k τ => ∃ (x : Nat) (out : List UInt8), x < 128 ^ (k + 1) ∧ k ≤ 2 ∧ out ++ vgo k x = putN b v ∧ out.length ≤ b.length + 2 - k ∧ x ≤ 1000000 ∧ τ = slots 29 [(1, .c .one [.sh false (.i .i64 (x : Nat))]), (5, .c .one [.ow false 1 (out.map bpv)])]) 2 (by omega) ?_ ?_
    · simp only [go_sem, Nat.reduceLT, Nat.reduceAdd, Nat.reduceSub, Nat.reduceEqDiff, Nat.reduceLeDiff, Int.reduceEq, Int.reduceBEq, Int.reduceBNe, Int.reduceNeg, UInt8.reduceToNat, Nat.reduceBEq]
      refine ⟨clampN v, b, by omega, rfl, Nat.le_refl _, hcl, ?_⟩
      rw [e1]
    · rintro k τ ⟨x, out, hx, hk, ho, hl, hx2, rfl⟩
      by_cases h1 : x < 128
      · have h1' : ((x : Int) > 127) = False := by simp only [eq_iff_iff, iff_false]; omega
        have g1 : out.length + 1 ≤ LIM := by omega
        have ho' : out ++ [UInt8.ofNat x] = putN b v := by
          rw [← ho]
          cases k with
          | zero => rfl
          | succ k => unfold vgo; rw [if_pos h1]
        simp only [go_sem, Nat.reduceLT, Nat.reduceAdd, Nat.reduceSub, Nat.reduceEqDiff, Nat.reduceLeDiff, Int.reduceEq, Int.reduceBEq, Int.reduceBNe, Int.reduceNeg, UInt8.reduceToNat, Nat.reduceBEq, h1', u8w, snoc_map, g1, ho']
      · have h1' : ((x : Int) > 127) = True := by simp only [eq_iff_iff, iff_true]; omega
        have g1 : out.length + 1 ≤ LIM := by omega
        obtain ⟨k, rfl⟩ : ∃ k', k = k' + 1 := by
          cases k with
          | zero => omega
          | succ k => exact ⟨k, rfl⟩
        have w1 : andI .i64 (x : Int) 127 = ((x % 128 : Nat) : Int) := by
          unfold andI
          rw [show (127 : Int) = ((127 : Nat) : Int) from rfl, bits_and (w := IntKind.i64.bits) (Nat.lt_trans (Nat.lt_of_le_of_lt hx2 (by decide)) (by decide : 1000001 < 2 ^ IntKind.i64.bits)) (by decide), show x &&& 127 = x % 2 ^ 7 from Nat.and_two_pow_sub_one_eq_mod x 7, wrap_in (by omega) (by omega)]
        have w1' := or128 (x := x % 128) (by omega)
        have w2 : shiftOp .shr .i64 (x : Int) 7 = some (.i .i64 ((x / 128 : Nat) : Int)) := shr64 (r := x) (s := 7) (by decide) (by omega)
        unfold vgo at ho
        rw [if_neg h1] at ho
        simp only [go_sem, Nat.reduceLT, Nat.reduceAdd, Nat.reduceSub, Nat.reduceEqDiff, Nat.reduceLeDiff, Int.reduceEq, Int.reduceBEq, Int.reduceBNe, Int.reduceNeg, UInt8.reduceToNat, Nat.reduceBEq, h1', w1, w1', w2, u8w, snoc_map, g1]
        refine ⟨k, Nat.lt_succ_self _, x / 128, out ++ [UInt8.ofNat (x % 128 + 128)], ?_, by omega, by rw [← ho, List.append_assoc]; rfl, by rw [List.length_append]; simp only [List.length_cons, List.length_nil]; omega, by omega, rfl⟩
        rw [Nat.pow_succ] at hx
        omega
end Go.Proofs.YtblelojdboefjaaDoor.R
