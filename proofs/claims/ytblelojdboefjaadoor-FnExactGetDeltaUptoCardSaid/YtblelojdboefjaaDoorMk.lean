/- Marks: what the laws write into slices. -/
import Derived.Test.YtblelojdboefjaaDoorF
import Derived.Test.YtblelojdboefjaaDoorT2
set_option maxRecDepth 100000
set_option linter.unusedVariables false
set_option linter.unusedSimpArgs false
namespace Go.Proofs.YtblelojdboefjaaDoor.R
open Go

def mB (_ : UInt8) (k : Nat) : UInt8 × Nat := (UInt8.ofNat k, k + 1)
theorem bytes_map1 {b : UInt8} : bytes? [[PV.i .u8 (b.toNat : Int)]] = some [b] := by
  simp [bytes?]

/-- The mark of a text. -/
def mTxt (k : Nat) : ByteArray := ⟨⟨[109]⟩⟩ ++ dec k
theorem markText_ok (n : Nat) (hn : Big + 1 ≤ n) (K : Nat) (hK : K ≤ 4611686018427387904) : pcall env n 68 [.c .one [.sh false (.i .i64 (K : Nat))]] [] = some ⟨.c .one [.sh false (.t (mTxt K))], []⟩ := by
  refine walk (fn := Tryd.f68) (d := 0) hn rfl rfl rfl (Nat.le_of_ble_eq_true rfl) fun m hd => ?_
  unfold Tryd.f68
  have hB : Big = 9223372036854775808 := rfl
  have hm := hd (Nat.zero_le _)
  by_cases h0 : K = 0
  · subst h0
    have e : mTxt 0 = ⟨⟨[109, 48]⟩⟩ := by unfold mTxt; rw [dec_lt (by decide)]; exact cat_lit
    rw [e]
    simp only [go_sem, Nat.reduceLT, Nat.reduceAdd, Nat.reduceSub, Nat.reduceEqDiff, Nat.reduceLeDiff, Int.reduceEq, Int.reduceBEq, Int.reduceBNe, Int.reduceNeg, UInt8.reduceToNat, Nat.reduceBEq]
  · have h0' : ((K : Int) ≤ 0) = False := by simp only [eq_iff_iff, iff_false]; omega
    have hds := dec_size K
    simp only [go_sem, Nat.reduceLT, Nat.reduceAdd, Nat.reduceSub, Nat.reduceEqDiff, Nat.reduceLeDiff, Int.reduceEq, Int.reduceBEq, Int.reduceBNe, Int.reduceNeg, UInt8.reduceToNat, Nat.reduceBEq, h0']
    refine wq_loop_at (fun k τ => ∃ (out : ByteArray), k ≤ K ∧ (0 < k → dec K = dec k ++ out) ∧ (k = 0 → dec K = out) ∧ τ = slots 20 [(0, .c .one [.sh false (.i .i64 (k : Nat))]), (3, .c .one [.sh false (.t (out))])]) K (by omega) ?_ ?_
    · simp only [go_sem, Nat.reduceLT, Nat.reduceAdd, Nat.reduceSub, Nat.reduceEqDiff, Nat.reduceLeDiff, Int.reduceEq, Int.reduceBEq, Int.reduceBNe, Int.reduceNeg, UInt8.reduceToNat, Nat.reduceBEq]
      exact ⟨⟨⟨[]⟩⟩, Nat.le_refl _, fun _ => by apply ByteArray.ext; simp, fun h => absurd h h0, rfl⟩
    · rintro k τ ⟨out, hk, g1, g2, rfl⟩
      by_cases h1 : 0 < k
      · have h1' : ((k : Int) > 0) = True := by simp only [eq_iff_iff, iff_true]; omega
        have e1 := g1 h1
        have hsz : out.size ≤ 4611686018427387905 := by
          have := congrArg ByteArray.size e1
          rw [ByteArray.size_append] at this
          omega
        have w1 : IntKind.i64.wrap (48 + (k : Int).tmod 10) = ((48 + k % 10 : Nat) : Int) := by
          rw [show (k : Int).tmod 10 = ((k % 10 : Nat) : Int) from rfl, wrap_in (by omega) (by omega)]; omega
        have w2 : IntKind.i64.wrap ((k : Int).tdiv 10) = ((k / 10 : Nat) : Int) := by
          rw [show (k : Int).tdiv 10 = ((k / 10 : Nat) : Int) from rfl, wrap_in (by omega) (by omega)]
        have e3 : (((1 + out.size : Nat) : Int) > IntKind.i64.max) = False := by rw [i64max]; simp only [eq_iff_iff, iff_false]; omega
        simp only [go_sem, Nat.reduceLT, Nat.reduceAdd, Nat.reduceSub, Nat.reduceEqDiff, Nat.reduceLeDiff, Int.reduceEq, Int.reduceBEq, Int.reduceBNe, Int.reduceNeg, UInt8.reduceToNat, Nat.reduceBEq, h1', w1, w2, u8w, UInt8.ofNat_toNat, e3]
        refine ⟨k / 10, by omega, ⟨⟨[UInt8.ofNat (48 + k % 10)]⟩⟩ ++ out, by omega, fun h => ?_, fun h => ?_, rfl⟩
        · rw [e1, dec_ge (show ¬ k < 10 by omega), ByteArray.append_assoc]
        · rw [e1, dec_lt (show k < 10 by omega), Nat.mod_eq_of_lt (show k < 10 by omega)]
      · have h1' : ((k : Int) > 0) = False := by simp only [eq_iff_iff, iff_false]; omega
        obtain rfl : k = 0 := by omega
        have hsz : out.size ≤ 4611686018427387905 := by rw [← g2 rfl]; omega
        have e3 : (((1 + out.size : Nat) : Int) > IntKind.i64.max) = False := by rw [i64max]; simp only [eq_iff_iff, iff_false]; omega
        simp only [go_sem, Nat.reduceLT, Nat.reduceAdd, Nat.reduceSub, Nat.reduceEqDiff, Nat.reduceLeDiff, Int.reduceEq, Int.reduceBEq, Int.reduceBNe, Int.reduceNeg, UInt8.reduceToNat, Nat.reduceBEq, h1', e3]
        rw [mTxt, g2 rfl]

def mI (_ : Int) (k : Nat) : Int × Nat := ((k : Int), k + 1)
def mS (_ : ByteArray) (k : Nat) : ByteArray × Nat := (mTxt k, k + 1)
theorem mkL_ge {α : Type} {f : α → Nat → α × Nat} (hf : ∀ x k, k ≤ (f x k).2) {l : List α} {k : Nat} : k ≤ (mkL f l k).2 := by
  have := mkL_mono hf (l := l) (k := k) (j := 0)
  exact Nat.le_trans this.1 this.2
theorem mkL_get {α : Type} {f : α → Nat → α × Nat} : ∀ {l : List α} {k j : Nat} {x : α}, l[j]? = some x → (mkL f l k).1[j]? = some (f x (mkL f (l.take j) k).2).1
  | [], k, j, x, h => by simp at h
  | y :: l, k, 0, x, h => by simp at h; subst h; rfl
  | y :: l, k, j + 1, x, h => by
    have h' : l[j]? = some x := by simpa using h
    have := mkL_get (f := f) (k := (f y k).2) h'
    simpa only [List.take_succ_cons, mkL, List.getElem?_cons_succ] using this
@[go_sem] theorem nat_neg {k : Nat} : ((k : Int) < 0) = False := by simp
theorem mo_mB : ∀ x k, k ≤ (mB x k).2 := fun _ k => Nat.le_succ k
theorem mo_mI : ∀ x k, k ≤ (mI x k).2 := fun _ k => Nat.le_succ k
theorem mo_mS : ∀ x k, k ≤ (mS x k).2 := fun _ k => Nat.le_succ k
theorem tu_ne {s o : Nat} {q : Path} {es : Nat} {rows r : List (List PV)} {σ : St} (h : rows ≠ []) : tu s o q es rows r σ = modS s o q (setRows es r) false σ := by
  cases rows with
  | nil => exact absurd rfl h
  | cons a l => rfl
theorem Wr.sub {s o : Nat} {q : Path} {es es' d i j : Nat} {σ0 σ : St} {rows r0 : List (List PV)} {row : List PV} (h : Wr s o q es d σ0 σ rows) (h1 : rows[i]? = some row) (h2 : row[j]? = some (.o es' r0)) : (cellAt σ s o).atQ (q ++ [(i, j)]) = some (false, es', r0) := by
  obtain ⟨es0, rows0, g1, g2⟩ := atQ_inv h.cell
  rw [g1]
  simp only [CV.atQ]
  rw [getP_app g2]
  simp only [getP, h1, h2, Option.bind_some, Option.map_some]
end Go.Proofs.YtblelojdboefjaaDoor.R
