/- Walking the evaluator: slice literals, texts, conversions. -/
import Derived.Test.YtlbigobmhglppaaS6
import Derived.IntWalk
set_option linter.unusedVariables false
set_option linter.unusedSimpArgs false
namespace Go.Proofs.Ytlbigobmhglppaa.R
open Go

theorem nest_here {c : CV} {σ : St} {q : St × Bool × PV} (h : nest c [] = some q) : q.1 = [] ∧ nest c σ = some (σ, q.2) := by
  cases c with
  | sh f p => simp only [nest] at h ⊢; injection h with h; subst h; exact ⟨rfl, rfl⟩
  | ow f es rows =>
    cases rows with
    | nil => simp only [nest] at h ⊢; injection h with h; subst h; exact ⟨rfl, rfl⟩
    | cons _ _ => simp [nest] at h
  | br s o kd lo f es rows => simp [nest, cellAt, CV.isOw] at h
  | dead => simp [nest] at h
theorem nestAll_here {σ : St} : ∀ {l : List CV} {q : St × Bool × List PV}, nestAll l [] = some q → q.1 = [] ∧ nestAll l σ = some (σ, q.2)
  | [], q, h => by simp only [nestAll] at h ⊢; injection h with h; subst h; exact ⟨rfl, rfl⟩
  | c :: l, q, h => by
    simp only [nestAll] at h ⊢
    obtain ⟨r, h1, h2⟩ := Option.bind_eq_some_iff.1 h
    obtain ⟨e1, e2⟩ := nest_here (σ := σ) h1
    obtain ⟨p, h3, h4⟩ := Option.map_eq_some_iff.1 h2
    rw [e1] at h3
    obtain ⟨e3, e4⟩ := nestAll_here (σ := σ) h3
    subst h4
    refine ⟨e3, ?_⟩
    rw [e2, Option.bind_some]
    simp only [e4, Option.map_some]
theorem fillRows_here {σ : St} {es : Nat} : ∀ {l : List (Nat × SV)} {f : Bool} {rows : List (List PV)} {q : St × Bool × List (List PV)}, fillRows es l f rows [] = some q → q.1 = [] ∧ fillRows es l f rows σ = some (σ, q.2)
  | [], f, rows, q, h => by simp only [fillRows] at h ⊢; injection h with h; subst h; exact ⟨rfl, rfl⟩
  | (i, x) :: l, f, rows, q, h => by
    simp only [fillRows] at h ⊢
    obtain ⟨cs, h1, h⟩ := Option.bind_eq_some_iff.1 h
    obtain ⟨r, h2, h⟩ := Option.bind_eq_some_iff.1 h
    obtain ⟨e1, e2⟩ := nestAll_here (σ := σ) h2
    split at h
    · rename_i hc
      rw [e1] at h
      obtain ⟨e3, e4⟩ := fillRows_here (σ := σ) h
      refine ⟨e3, ?_⟩
      rw [h1, Option.bind_some, e2, Option.bind_some, if_pos hc]
      exact e4
    · simp at h

section
variable {E : Env} {call : CallF} {N : Nat} {σ : St} {L : Kont St} {d : Tmp} {ty : TypeId} {ps : String} {af : Array Edge} {gd : Option (Nat × Bool)}
/-- A slice literal. -/
def litSt (T : Tys) (t : TypeId) (n : Nat) (l : List (Nat × SV)) (σ : St) : Option (St × SV) := (T.sl t).bind fun e => (T.sz e).bind fun es => (T.zr e).bind fun z =>
      if n * es ≤ 16777216 ∧ z.length = es then (fillRows es l false (List.replicate n z) σ).map fun r => (r.1, .c .one [.ow r.2.1 es r.2.2]) else none
@[go_sem ↓] theorem qp_buildSlice {t n ps'} : @Wq _ (stepOp E call N ⟨some d, .buildSlice t n ps', ty, ps, af, gd⟩ σ) L = @Bq (d < N) ⟨@Wq _ (some (clear d σ)) ⟨fun σ => @Wq _ (litSt E.T t n (ps'.toList.map fun p => (p.1, opd E.T N ty σ p.2)) σ) ⟨fun r => @Wq _ (some (r.1.set d r.2)) L⟩⟩⟩ ⟨False⟩ := by
  show Wp _ L.run = Br (d < N) (Wp (some (clear d σ)) fun σ => Wp (litSt E.T t n (ps'.toList.map fun p => (p.1, opd E.T N ty σ p.2)) σ) fun r => Wp (some (r.1.set d r.2)) L.run) False
  by_cases hd : d < N
  · simp only [stepOp, hd, if_true, br_true, wp_some]
    generalize clear d σ = τ
    have he : effOp E call N ⟨some d, .buildSlice t n ps', ty, ps, af, gd⟩ d τ = litSt E.T t n (ps'.toList.map fun p => (p.1, opd E.T N ty τ p.2)) τ := rfl
    have hp : ∀ v, pureOp E call N ⟨some d, .buildSlice t n ps', ty, ps, af, gd⟩ τ = some v → litSt E.T t n (ps'.toList.map fun p => (p.1, opd E.T N ty τ p.2)) τ = some (τ, v) := fun v h => by
      simp only [pureOp] at h
      unfold litSt
      obtain ⟨e, h1, h⟩ := Option.bind_eq_some_iff.1 h
      obtain ⟨es, h2, h⟩ := Option.bind_eq_some_iff.1 h
      obtain ⟨z, h3, h⟩ := Option.bind_eq_some_iff.1 h
      rw [h1, Option.bind_some, h2, Option.bind_some, h3, Option.bind_some]
      split at h
      · rename_i hc
        obtain ⟨q, h4, h5⟩ := Option.map_eq_some_iff.1 h
        obtain ⟨_, e2⟩ := fillRows_here (σ := τ) h4
        rw [if_pos hc, e2, Option.map_some, h5]
      · simp at h
    cases hv : pureOp E call N ⟨some d, .buildSlice t n ps', ty, ps, af, gd⟩ τ with
    | some v => simp only [wp_some, hp v hv]
    | none => simp only [he, wp_map]
  · simp [stepOp, hd, Br]
@[go_sem ↓] theorem pu_buildSlice {t n ps'} : pureOp E call N ⟨some d, .buildSlice t n ps', ty, ps, af, gd⟩ σ = (litSt E.T t n (ps'.toList.map fun p => (p.1, opd E.T N ty σ p.2)) []).map (·.2) := by
  show ((E.T.sl t).bind fun e => (E.T.sz e).bind fun es => (E.T.zr e).bind fun z =>
      if n * es ≤ 16777216 ∧ z.length = es then (fillRows es (ps'.toList.map fun p => (p.1, opd E.T N ty σ p.2)) false (List.replicate n z) []).map fun r => SV.c .one [.ow r.2.1 es r.2.2] else none) = _
  unfold litSt
  cases E.T.sl t with
  | none => rfl
  | some e =>
    simp only [Option.bind_some]
    cases E.T.sz e with
    | none => rfl
    | some es =>
      simp only [Option.bind_some]
      cases E.T.zr e with
      | none => rfl
      | some z =>
        simp only [Option.bind_some]
        split
        · simp [Option.map_map, Function.comp_def]
        · rfl
attribute [go_sem] litSt bytes? Nat.one_mul Nat.mul_one
end

/-- A text that is put together is not too long. -/
theorem cat_ok {a b : Nat} (h : a + b ≤ 9223372036854775807) : (((a + b : Nat) : Int) > IntKind.i64.max) = False := by
  have : IntKind.i64.max = 9223372036854775807 := rfl
  simp only [eq_iff_iff, iff_false]
  omega
theorem i64max : IntKind.i64.max = 9223372036854775807 := rfl
theorem size_lit {l : List UInt8} : ByteArray.size ⟨⟨l⟩⟩ = l.length := rfl
theorem encode_one {n : Int} (h1 : 0 ≤ n) (h2 : n < 128) : Utf8.encode n = ⟨#[UInt8.ofNat n.toNat]⟩ := by
  unfold Utf8.encode
  have hv : Utf8.valid n = true := by unfold Utf8.valid; simp; omega
  simp only [hv, if_true]
  rw [if_pos (by omega)]

/-- A whole number from 0 in decimal digits. -/
def dec (n : Nat) : ByteArray := if n < 10 then ⟨#[UInt8.ofNat (48 + n)]⟩ else dec (n / 10) ++ ⟨#[UInt8.ofNat (48 + n % 10)]⟩
theorem dec_lt {n : Nat} (h : n < 10) : dec n = ⟨#[UInt8.ofNat (48 + n)]⟩ := by rw [dec, if_pos h]
theorem dec_ge {n : Nat} (h : ¬ n < 10) : dec n = dec (n / 10) ++ ⟨#[UInt8.ofNat (48 + n % 10)]⟩ := by rw [dec, if_neg h]
theorem dec_size (n : Nat) : (dec n).size ≤ n + 1 := by
  induction n using Nat.strongRecOn with
  | ind n ih =>
    by_cases h : n < 10
    · rw [dec_lt h]; show 1 ≤ n + 1; omega
    · rw [dec_ge h, ByteArray.size_append]
      have := ih (n / 10) (by omega)
      show (dec (n / 10)).size + 1 ≤ n + 1
      omega

end Go.Proofs.Ytlbigobmhglppaa.R
