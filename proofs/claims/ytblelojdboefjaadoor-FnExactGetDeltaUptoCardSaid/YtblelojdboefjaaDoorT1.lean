/- Walks in few words: how a call begins, rounds over a list, rounds counted, whole numbers of 32 bits. -/
import Derived.Test.YtblelojdboefjaaDoorT0
import Derived.Test.YtblelojdboefjaaDoorM6
set_option linter.unusedVariables false
set_option linter.unusedSimpArgs false
namespace Go.Proofs.YtblelojdboefjaaDoor.R
open Go

section
variable {E : Env} {call : CallF} {N n : Nat}
/-- A call of a function whose callees lie d deep. -/
theorem walkK {d : Nat} {f : FuncId} {args : List SV} {bs : List (List CV)} {fn : Func} {code : Code} {K : Ret → Prop} (hn : Big + (d + 1) ≤ n) (ho : E.orc f = none) (hf : E.fns f = some fn) (hb : fn.body = some code) (hl : args.length ≤ fn.ntmps)
    (h : ∀ m, (∀ {k}, k ≤ d → Big + k ≤ m) → @Wq _ (runCode (E.run f (icall E m)) (pcall E m) fn.ntmps m code (start fn.ntmps args bs)) ⟨fun q => ended q.1 ∧ @Wq _ (finish (E.run f (icall E m)).T fn.ntmps bs.length fn.results.toList q.2) ⟨K⟩⟩) : ∃ r, pcall E n f args bs = some r ∧ K r := by
  obtain ⟨m, rfl⟩ : ∃ m, n = m + 1 := ⟨n - 1, by have := big_bd; omega⟩
  exact wq_pcall (K := ⟨K⟩) ho hf hb hl (h m fun hk => by omega)
theorem walk {d : Nat} {f : FuncId} {args : List SV} {bs : List (List CV)} {r : Ret} {fn : Func} {code : Code} (hn : Big + (d + 1) ≤ n) (ho : E.orc f = none) (hf : E.fns f = some fn) (hb : fn.body = some code) (hl : args.length ≤ fn.ntmps)
    (h : ∀ m, (∀ {k}, k ≤ d → Big + k ≤ m) → @Wq _ (runCode (E.run f (icall E m)) (pcall E m) fn.ntmps m code (start fn.ntmps args bs)) ⟨fun q => ended q.1 ∧ @Wq _ (finish (E.run f (icall E m)).T fn.ntmps bs.length fn.results.toList q.2) ⟨fun s => s = r⟩⟩) : pcall E n f args bs = some r := by
  obtain ⟨q, h1, h2⟩ := walkK hn ho hf hb hl h
  rw [h1, h2]

theorem pcall_orc {E : Env} {n : Nat} {f : FuncId} {g : CallF → List SV → List (List CV) → Option Ret} {args : List SV} {bs : List (List CV)} (h : E.orc f = some g) : pcall E (n + 1) f args bs = g (pcall E n) args bs := by
  rw [pcall_succ]; simp only [pbody, h]
/-- Where a round ends: the state, and what is known there; nothing of it is walked. -/
class Held where
  st : St
  pr : Prop
def Fin (σ : St) [h : Held] : Prop := σ = h.st ∧ h.pr
theorem fin {σ : St} {h : Held} (e : σ = h.st) (p : h.pr) : @Fin σ h := ⟨e, p⟩
theorem fin' {σ τ : St} (e : σ = τ) : @Fin σ ⟨τ, True⟩ := ⟨e, trivial⟩
/-- Rounds 0, 1, .. of a loop: the state at each one's head, and what is known there. -/
theorem wq_count {b : Code} {σ : St} {K : Kont (Ex × St)} (len : Nat) (S : Nat → St) (I : Nat → Prop) (hn : Big ≤ n) (hl : len ≤ 1152921504606846976)
    (h0 : @Wq _ (some (tidy N (E.D (firstId b)) σ)) ⟨fun σ => @Fin σ ⟨S 0, I 0⟩⟩)
    (hs : ∀ j, j < len → (((j : Int) < (len : Int)) = True) → IntKind.i64.wrap ((j : Int) + 1) = ((j + 1 : Nat) : Int) → I j → @Wq _ (runCode E call N n b (S j)) ⟨cont (fun σ => @Wq _ (some (tidy N (E.D (firstId b)) σ)) ⟨fun σ => @Fin σ ⟨S (j + 1), I (j + 1)⟩⟩) K.run⟩)
    (he : I len → @Wq _ (runCode E call N n b (S len)) ⟨cont (fun _ => False) K.run⟩) : @Wq _ (runCode E call N n (.loop b) σ) K := by
  have hB : Big = 9223372036854775808 := rfl
  refine wq_loop_at (fun k τ => ∃ j, j ≤ len ∧ k = len - j ∧ I j ∧ τ = S j) len (by omega) ?_ ?_
  · rw [wq_some] at h0 ⊢
    exact ⟨0, Nat.zero_le _, rfl, h0.2, h0.1⟩
  · rintro k τ ⟨j, hj, rfl, hI, rfl⟩
    by_cases hlt : j < len
    · refine (hs j hlt (by simp only [eq_iff_iff, iff_true]; omega) (wrap_succ hlt hl) hI).mono fun r hr => ?_
      obtain ⟨e, τ⟩ := r
      cases e with
      | normal => exact Wq.mono (K := ⟨fun σ => @Fin σ ⟨S (j + 1), I (j + 1)⟩⟩) hr fun τ ht => ⟨_, by omega, j + 1, hlt, rfl, ht.2, ht.1⟩
      | _ => exact hr
    · obtain rfl : j = len := by omega
      refine (he hI).mono fun r hr => ?_
      obtain ⟨e, τ⟩ := r
      cases e with
      | normal => exact hr.elim
      | _ => exact hr
/-- Rounds over a list's elements. -/
theorem wq_each {α : Type} {b : Code} {σ : St} {K : Kont (Ex × St)} (l : List α) (S : Nat → St) (I : Nat → Prop) (hn : Big ≤ n) (hl : l.length ≤ 1152921504606846976)
    (h0 : @Wq _ (some (tidy N (E.D (firstId b)) σ)) ⟨fun σ => @Fin σ ⟨S 0, I 0⟩⟩)
    (hs : ∀ j x, l[j]? = some x → x ∈ l → j < l.length → (((j : Int) < (l.length : Int)) = True) → IntKind.i64.wrap ((j : Int) + 1) = ((j + 1 : Nat) : Int) → I j → @Wq _ (runCode E call N n b (S j)) ⟨cont (fun σ => @Wq _ (some (tidy N (E.D (firstId b)) σ)) ⟨fun σ => @Fin σ ⟨S (j + 1), I (j + 1)⟩⟩) K.run⟩)
    (he : I l.length → @Wq _ (runCode E call N n b (S l.length)) ⟨cont (fun _ => False) K.run⟩) : @Wq _ (runCode E call N n (.loop b) σ) K :=
  wq_count l.length S I hn hl h0 (fun j hj h1 h2 hI => hs j _ (List.getElem?_eq_getElem hj) (List.getElem_mem hj) hj h1 h2 hI) he
end
attribute [go_sem] Int.lt_irrefl

theorem bits_xor {w x y : Nat} (hx : x < 2 ^ w) (hy : y < 2 ^ w) : (BitVec.ofInt w (x : Int) ^^^ BitVec.ofInt w (y : Int)).toNat = x ^^^ y := by
  rw [BitVec.toNat_xor, BitVec.ofInt_natCast, BitVec.ofInt_natCast, BitVec.toNat_ofNat, BitVec.toNat_ofNat, Nat.mod_eq_of_lt hx, Nat.mod_eq_of_lt hy]
theorem bits_and {w x y : Nat} (hx : x < 2 ^ w) (hy : y < 2 ^ w) : (BitVec.ofInt w (x : Int) &&& BitVec.ofInt w (y : Int)).toNat = x &&& y := by
  rw [BitVec.toNat_and, BitVec.ofInt_natCast, BitVec.ofInt_natCast, BitVec.toNat_ofNat, BitVec.toNat_ofNat, Nat.mod_eq_of_lt hx, Nat.mod_eq_of_lt hy]
theorem bits_or {w x y : Nat} (hx : x < 2 ^ w) (hy : y < 2 ^ w) : (BitVec.ofInt w (x : Int) ||| BitVec.ofInt w (y : Int)).toNat = x ||| y := by
  rw [BitVec.toNat_or, BitVec.ofInt_natCast, BitVec.ofInt_natCast, BitVec.toNat_ofNat, BitVec.toNat_ofNat, Nat.mod_eq_of_lt hx, Nat.mod_eq_of_lt hy]
/-- One turn of the sum. -/
def crcR (r : Nat) : Nat := if r % 2 = 1 then (r / 2) ^^^ 2197175160 else r / 2
def crcB (r : Nat) (b : UInt8) : Nat := crcR (crcR (crcR (crcR (crcR (crcR (crcR (crcR (r ^^^ b.toNat))))))))
def crcL (l : List UInt8) : Nat := l.foldl crcB 4294967295
def crcN (l : List UInt8) : Nat := crcL l ^^^ 4294967295
theorem crcR_lt {r : Nat} (h : r < 4294967296) : crcR r < 4294967296 := by
  unfold crcR; split
  · exact Nat.xor_lt_two_pow (n := 32) (by omega) (by omega)
  · omega
theorem crcB_lt {r : Nat} {b : UInt8} (h : r < 4294967296) : crcB r b < 4294967296 := by
  unfold crcB
  have := b.toNat_lt
  exact crcR_lt (crcR_lt (crcR_lt (crcR_lt (crcR_lt (crcR_lt (crcR_lt (crcR_lt (Nat.xor_lt_two_pow (n := 32) h (by omega)))))))))
theorem crcL_lt (l : List UInt8) : crcL l < 4294967296 := by
  suffices H : ∀ (l : List UInt8) (r : Nat), r < 4294967296 → l.foldl crcB r < 4294967296 from H l _ (by decide)
  intro l
  induction l with
  | nil => intro r h; exact h
  | cons b l ih => intro r h; exact ih _ (crcB_lt h)
theorem crcN_lt (l : List UInt8) : crcN l < 4294967296 := Nat.xor_lt_two_pow (n := 32) (crcL_lt l) (by decide)
theorem crcL_take {l : List UInt8} {j : Nat} {b : UInt8} (h : l[j]? = some b) : crcL (l.take (j + 1)) = crcB (crcL (l.take j)) b := by
  obtain ⟨hj, e⟩ := List.getElem?_eq_some_iff.1 h
  unfold crcL
  rw [List.take_succ_eq_append_getElem hj, e, List.foldl_append]; rfl
/-- Some turns. -/
def crcRs (r : Nat) : Nat → Nat
  | 0 => r
  | k + 1 => crcR (crcRs r k)
theorem crcRs_lt {r : Nat} (h : r < 4294967296) : ∀ k, crcRs r k < 4294967296
  | 0 => h
  | k + 1 => crcR_lt (crcRs_lt h k)
theorem w_xor32 {x y : Nat} (hx : x < 4294967296) (hy : y < 4294967296) : xorI .u32 (x : Int) (y : Int) = ((x ^^^ y : Nat) : Int) := by
  unfold xorI
  rw [bits_xor hx hy, IntKind.wrap_u32]
  have := Nat.xor_lt_two_pow (n := 32) hx hy
  omega
theorem w_and32 {x : Nat} (hx : x < 4294967296) : andI .u32 (x : Int) 1 = ((x % 2 : Nat) : Int) := by
  unfold andI
  rw [show (1 : Int) = ((1 : Nat) : Int) from rfl, bits_and hx (by decide), IntKind.wrap_u32, Nat.and_one_is_mod]
  omega
theorem w_xor64 {x y : Nat} (hx : x < 4294967296) (hy : y < 4294967296) : xorI .i64 (x : Int) (y : Int) = ((x ^^^ y : Nat) : Int) := by
  unfold xorI
  rw [bits_xor (Nat.lt_trans hx (by decide)) (Nat.lt_trans hy (by decide)), IntKind.wrap_i64]
  have := Nat.xor_lt_two_pow (n := 32) hx hy
  omega
theorem w_and64 {x : Nat} (hx : x < 4294967296) : andI .i64 (x : Int) 1 = ((x % 2 : Nat) : Int) := by
  unfold andI
  rw [show (1 : Int) = ((1 : Nat) : Int) from rfl, bits_and (Nat.lt_trans hx (by decide)) (by decide), IntKind.wrap_i64, Nat.and_one_is_mod]
  omega
theorem un_xor32 {r : Nat} (hr : r < 4294967296) : xorI .u32 (if IntKind.u32.signed then -1 else IntKind.u32.max) (r : Int) = ((r ^^^ 4294967295 : Nat) : Int) := by
  have := w_xor32 (x := 4294967295) (y := r) (by decide) hr
  rw [Nat.xor_comm] at this
  exact this
theorem fdiv_nat {x k : Nat} : (x : Int).fdiv (2 ^ k) = ((x / 2 ^ k : Nat) : Int) := by
  rw [show ((2 : Int) ^ k) = ((2 ^ k : Nat) : Int) by simp]; exact (Int.ofNat_fdiv x (2 ^ k)).symm
theorem shr32 {r s : Nat} (hs : s ≤ 32) (hr : r < 4294967296) : shiftOp .shr .u32 (r : Int) (s : Int) = some (.i .u32 ((r / 2 ^ s : Nat) : Int)) := by
  have h1 : min (Int.toNat (s : Int)) IntKind.u32.bits = s := by rw [Int.toNat_natCast]; exact Nat.min_eq_left hs
  have h2 : r / 2 ^ s ≤ r := Nat.div_le_self _ _
  simp only [shiftOp, h1, fdiv_nat]
  rw [if_neg (by omega)]
theorem shr64 {r s : Nat} (hs : s ≤ 64) (hr : r < 9223372036854775808) : shiftOp .shr .i64 (r : Int) (s : Int) = some (.i .i64 ((r / 2 ^ s : Nat) : Int)) := by
  have h1 : min (Int.toNat (s : Int)) IntKind.i64.bits = s := by rw [Int.toNat_natCast]; exact Nat.min_eq_left hs
  have h2 : r / 2 ^ s ≤ r := Nat.div_le_self _ _
  simp only [shiftOp, h1, fdiv_nat]
  rw [if_neg (by omega)]
theorem shl64 {r s : Nat} (hs : s ≤ 64) (hr : r * 2 ^ s < 9223372036854775808) : shiftOp .shl .i64 (r : Int) (s : Int) = some (.i .i64 ((r * 2 ^ s : Nat) : Int)) := by
  have h1 : min (Int.toNat (s : Int)) IntKind.i64.bits = s := by rw [Int.toNat_natCast]; exact Nat.min_eq_left hs
  have h3 : (r : Int) * 2 ^ s = ((r * 2 ^ s : Nat) : Int) := by simp
  simp only [shiftOp, h1, h3]
  rw [if_neg (by omega), Go.IntWalk.i64_in _ (by omega)]
theorem u8w (k : Nat) : IntKind.u8.wrap (k : Int) = ((UInt8.ofNat k).toNat : Int) := by
  rw [IntKind.wrap_u8, UInt8.toNat_ofNat']; omega
/-- The four bytes of a number. -/
def be4 (n : Nat) : List UInt8 := [UInt8.ofNat (n / 16777216), UInt8.ofNat (n / 65536), UInt8.ofNat (n / 256), UInt8.ofNat n]
def un4 : List UInt8 → Nat
  | [a, b, c, d] => a.toNat * 16777216 + b.toNat * 65536 + c.toNat * 256 + d.toNat
  | _ => 0
theorem be4_un4 {l : List UInt8} (h : l.length = 4) : be4 (un4 l) = l := by
  match l, h with
  | [a, b, c, d], _ =>
    have := a.toNat_lt; have := b.toNat_lt; have := c.toNat_lt; have := d.toNat_lt
    simp only [un4, be4]
    congr 1
    · apply UInt8.toNat_inj.1; simp only [UInt8.toNat_ofNat']; omega
    · congr 1
      · apply UInt8.toNat_inj.1; simp only [UInt8.toNat_ofNat']; omega
      · congr 1
        · apply UInt8.toNat_inj.1; simp only [UInt8.toNat_ofNat']; omega
        · congr 1
          apply UInt8.toNat_inj.1; simp only [UInt8.toNat_ofNat']; omega
theorem un4_be4 {n : Nat} (h : n < 4294967296) : un4 (be4 n) = n := by
  simp only [un4, be4, UInt8.toNat_ofNat']
  omega
end Go.Proofs.YtblelojdboefjaaDoor.R
