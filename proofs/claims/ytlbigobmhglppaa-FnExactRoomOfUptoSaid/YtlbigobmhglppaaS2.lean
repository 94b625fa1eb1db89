/- Walking the evaluator: the operations. -/
import Derived.Test.YtlbigobmhglppaaS1
set_option linter.unusedVariables false
set_option linter.unusedSimpArgs false
namespace Go.Proofs.Ytlbigobmhglppaa.R
open Go

section
variable {E : Env} {call : CallF} {N : Nat} {σ : St} {L : St → Prop} {d : Tmp} {ty : TypeId} {ps : String} {af : Array Edge} {gd : Option (Nat × Bool)}

/-- Operations that the pure table alone answers. -/
def onlyPure : Op → Bool
  | .assign _ | .alloc _ | .box _ _ | .buildSlice _ _ _ | .call _ | .store _ _ _ => false
  | _ => true

theorem eff_none {op : Op} (h : onlyPure op = true) : effOp E call N ⟨some d, op, ty, ps, af, gd⟩ d σ = none := by
  cases op <;> first | rfl | simp [onlyPure] at h

theorem wp_pure {op : Op} (h : onlyPure op = true) : Wp (stepOp E call N ⟨some d, op, ty, ps, af, gd⟩ σ) L =
    Br (d < N) (Wp (some (clear d σ)) fun σ => Wp (pureOp E call N ⟨some d, op, ty, ps, af, gd⟩ σ) fun v => Wp (some (σ.set d v)) L) False := by
  by_cases hd : d < N
  · simp only [stepOp, hd, if_true, br_true, wp_some]
    cases hp : pureOp E call N ⟨some d, op, ty, ps, af, gd⟩ (clear d σ) with
    | some v => simp
    | none => simp [eff_none h]
  · simp [stepOp, hd, Br]

@[simp↓] theorem wp_move {x} : Wp (stepOp E call N ⟨some d, .move x, ty, ps, af, gd⟩ σ) L = Br (d < N) (Wp (some (clear d σ)) fun σ => Wp (some (σ.set d (opd E.T N ty σ x))) L) False := by
  rw [wp_pure rfl]; simp [pureOp]
@[simp↓] theorem wp_pick {c a b} : Wp (stepOp E call N ⟨some d, .pick c a b, ty, ps, af, gd⟩ σ) L = Br (d < N) (Wp (some (clear d σ)) fun σ => Wp (opd E.T N ty σ c).bool? fun t => Wp (some (σ.set d (if t then opd E.T N ty σ a else opd E.T N ty σ b))) L) False := by
  rw [wp_pure rfl]; simp only [pureOp, wp_map]
@[simp↓] theorem wp_bin {op t x y u} : Wp (stepOp E call N ⟨some d, .binOp op t x y u, ty, ps, af, gd⟩ σ) L = Br (d < N) (Wp (some (clear d σ)) fun σ => Wp (binSV E.T op t (opd E.T N ty σ x) (opd E.T N ty σ y)) fun v => Wp (some (σ.set d (pvSV v))) L) False := by
  rw [wp_pure rfl]; simp only [pureOp, wp_map]
@[simp↓] theorem wp_un {op t x} : Wp (stepOp E call N ⟨some d, .unOp op t x, ty, ps, af, gd⟩ σ) L = Br (d < N) (Wp (some (clear d σ)) fun σ => Wp (unSV op (opd E.T N ty σ x)) fun v => Wp (some (σ.set d (pvSV v))) L) False := by
  rw [wp_pure rfl]; simp only [pureOp, wp_map]
@[simp↓] theorem wp_conv {s t x} : Wp (stepOp E call N ⟨some d, .convert s t x, ty, ps, af, gd⟩ σ) L = Br (d < N) (Wp (some (clear d σ)) fun σ => Wp (convSV E.T s t (opd E.T N ty σ x)) fun v => Wp (some (σ.set d v)) L) False := by
  rw [wp_pure rfl]; rfl
@[simp↓] theorem wp_fieldAddr {t x f} : Wp (stepOp E call N ⟨some d, .fieldAddr t x f, ty, ps, af, gd⟩ σ) L = Br (d < N) (Wp (some (clear d σ)) fun σ => Wp (fieldSV E.T t (opd E.T N ty σ x) f) fun v => Wp (some (σ.set d v)) L) False := by
  rw [wp_pure rfl]; rfl
@[simp↓] theorem wp_indexAddr {t x i} : Wp (stepOp E call N ⟨some d, .indexAddr t x i, ty, ps, af, gd⟩ σ) L = Br (d < N) (Wp (some (clear d σ)) fun σ => Wp (indexSV E.T t (opd E.T N ty σ x) (opd E.T N ty σ i)) fun v => Wp (some (σ.set d v)) L) False := by
  rw [wp_pure rfl]; rfl
@[simp↓] theorem wp_index {t x i} : Wp (stepOp E call N ⟨some d, .index t x i, ty, ps, af, gd⟩ σ) L = Br (d < N) (Wp (some (clear d σ)) fun σ => Wp (charSV E.T t (opd E.T N ty σ x) (opd E.T N ty σ i)) fun v => Wp (some (σ.set d v)) L) False := by
  rw [wp_pure rfl]; rfl
@[simp↓] theorem wp_load {t x} : Wp (stepOp E call N ⟨some d, .load t x, ty, ps, af, gd⟩ σ) L = Br (d < N) (Wp (some (clear d σ)) fun σ => Wp (loadSV E.T σ t (opd E.T N ty σ x)) fun v => Wp (some (σ.set d v)) L) False := by
  rw [wp_pure rfl]; rfl
def extSV (v : SV) (i : Nat) : Option SV :=
  match v with
  | .c (.tup s) l => comp i s l
  | _ => none
@[simp↓] theorem wp_extract {x i} : Wp (stepOp E call N ⟨some d, .extract x i, ty, ps, af, gd⟩ σ) L = Br (d < N) (Wp (some (clear d σ)) fun σ => Wp (extSV (opd E.T N ty σ x) i) fun v => Wp (some (σ.set d v)) L) False := by
  rw [wp_pure rfl]; rfl
@[simp↓] theorem wp_slice {t x lo hi} : Wp (stepOp E call N ⟨some d, .slice t x lo hi none, ty, ps, af, gd⟩ σ) L = Br (d < N) (Wp (some (clear d σ)) fun σ => Wp (sliceSV E.T t (opd E.T N ty σ x) (lo.map (opd E.T N ty σ)) (hi.map (opd E.T N ty σ))) fun v => Wp (some (σ.set d v)) L) False := by
  rw [wp_pure rfl]; rfl
@[simp↓] theorem wp_nilCheck {x} : Wp (stepOp E call N ⟨some d, .nilCheck x, ty, ps, af, gd⟩ σ) L = Br (d < N) (Wp (some (clear d σ)) fun σ => Br (guardPt (opd E.T N ty σ x) = true) (Wp (some (σ.set d (opd E.T N ty σ x))) L) False) False := by
  rw [wp_pure rfl]
  congr 1; congr 1; funext σ
  simp only [pureOp, wp_ite, wp_some, wp_none]
@[simp↓] theorem wp_build {t ps'} : Wp (stepOp E call N ⟨some d, .build t ps', ty, ps, af, gd⟩ σ) L = Br (d < N) (Wp (some (clear d σ)) fun σ => Wp (E.T.zr t) fun z => Wp (E.T.ag t) fun a => Br (a = true) (Wp (fillSV E.T t (ps'.toList.map fun p => (p.1, opd E.T N ty σ p.2)) (z.map (PV.cv false))) fun l => Wp (some (σ.set d (.c .agg l))) L) False) False := by
  rw [wp_pure rfl]
  congr 1; congr 1; funext σ
  simp only [pureOp, wp_bind, wp_ite, wp_some, wp_none, wp_map]
@[simp↓] theorem wp_makeFunc {g caps} : Wp (stepOp E call N ⟨some d, .makeFunc (.func g) #[] caps, ty, ps, af, gd⟩ σ) L = Br (d < N) (Wp (some (clear d σ)) fun σ => Wp (caps.toList.mapM fun x => slotOf (opd E.T N ty σ x)) fun l => Wp (some (σ.set d (.fn g l))) L) False := by
  rw [wp_pure rfl]
  congr 1; congr 1; funext σ
  simp [pureOp]
def makeSV (T : Tys) (t : TypeId) (n m : SV) : Option SV := (T.sl t).bind fun e => (T.sz e).bind fun es => (T.byt e).bind fun bs => (T.zr e).bind fun z =>
      match n.int?, m.int? with
      | some (.i64, n), some (.i64, m) => if n = m ∧ 0 ≤ n ∧ n ≤ LIM ∧ n * bs ≤ LIM ∧ z.length = es then some (.c .one [.ow false es (List.replicate n.toNat z)]) else none
      | _, _ => none
@[simp↓] theorem wp_makeSlice {t n m} : Wp (stepOp E call N ⟨some d, .makeSlice t n m, ty, ps, af, gd⟩ σ) L = Br (d < N) (Wp (some (clear d σ)) fun σ => Wp (makeSV E.T t (opd E.T N ty σ n) (opd E.T N ty σ m)) fun v => Wp (some (σ.set d v)) L) False := by
  rw [wp_pure rfl]; rfl

/-- A value is laid down in slot d. -/
def asgSV (d : Nat) (v : SV) (σ : St) : Option (St × SV) :=
  match v with
  | .c .one l => (persistAll d 0 l σ).map fun r => (r.1, .c .one r.2)
  | .c .agg l => (persistAll d 0 l σ).map fun r => (r.1, .c .agg r.2)
  | .bp s b => some (σ, .bp s b)
  | .fn g caps => some (σ, .fn g caps)
  | _ => none

def asgP (v : SV) : Option SV := match v with
      | .c .one l => if l.all (fun c => match c with | .sh _ _ => true | _ => false) then some (.c .one l) else none
      | .c .agg l => if l.all (fun c => match c with | .sh _ _ => true | _ => false) then some (.c .agg l) else none
      | .bp s b => some (.bp s b)
      | .fn g caps => some (.fn g caps)
      | _ => none
def asgE (d : Nat) (v : SV) (σ : St) : Option (St × SV) := match v with
      | .c .one l => (persistAll d 0 l σ).map fun r => (r.1, .c .one r.2)
      | .c .agg l => (persistAll d 0 l σ).map fun r => (r.1, .c .agg r.2)
      | _ => none
theorem persistAll_sh {d : Nat} : ∀ (l : List CV) (j : Nat) (σ : St), (l.all fun c => match c with | .sh _ _ => true | _ => false) = true → persistAll d j l σ = some (σ, l)
  | [], j, σ, h => rfl
  | c :: l, j, σ, h => by
    simp only [List.all_cons, Bool.and_eq_true] at h
    cases c <;> simp at h
    simp [persistAll, persist, persistAll_sh l (j + 1) σ (by simpa using h)]

@[simp↓] theorem wp_assign {x} : Wp (stepOp E call N ⟨some d, .assign x, ty, ps, af, gd⟩ σ) L = Br (d < N) (Wp (some (clear d σ)) fun σ => Wp (asgSV d (opd E.T N ty σ x) σ) fun r => Wp (some (r.1.set d r.2)) L) False := by
  by_cases hd : d < N
  · simp only [stepOp, hd, if_true, br_true, wp_some]
    generalize hv : opd E.T N ty (clear d σ) x = v
    have hp : pureOp E call N ⟨some d, .assign x, ty, ps, af, gd⟩ (clear d σ) = asgP v := by rw [← hv]; rfl
    have he : effOp E call N ⟨some d, .assign x, ty, ps, af, gd⟩ d (clear d σ) = asgE d v (clear d σ) := by rw [← hv]; rfl
    rw [hp, he]
    cases v with
    | c sh l =>
      cases sh with
      | one =>
        by_cases hs : (l.all fun c => match c with | .sh _ _ => true | _ => false) = true
        · simp only [asgP, hs, if_true, asgSV, persistAll_sh l 0 _ hs, Option.map_some, wp_some]
        · simp only [asgP, asgE, hs, if_false, asgSV, wp_map, Bool.false_eq_true, wp_some, Function.comp_def]
      | agg =>
        by_cases hs : (l.all fun c => match c with | .sh _ _ => true | _ => false) = true
        · simp only [asgP, hs, if_true, asgSV, persistAll_sh l 0 _ hs, Option.map_some, wp_some]
        · simp only [asgP, asgE, hs, if_false, asgSV, wp_map, Bool.false_eq_true, wp_some, Function.comp_def]
      | _ => simp [asgSV, asgP, asgE]
    | _ => simp [asgSV, asgP, asgE]
  · simp [stepOp, hd, Br]
@[simp↓] theorem wp_alloc {t} : Wp (stepOp E call N ⟨some d, .alloc t, ty, ps, af, gd⟩ σ) L = Br (d < N) (Wp (some (clear d σ)) fun σ => Wp (E.T.zr t) fun z => Wp (some (σ.set d (.c .box (z.map (PV.cv false))))) L) False := by
  by_cases hd : d < N
  · simp [stepOp, hd, pureOp, effOp]
  · simp [stepOp, hd, Br]
@[simp↓] theorem wp_box {t x} : Wp (stepOp E call N ⟨some d, .box t x, ty, ps, af, gd⟩ σ) L = Br (d < N) (Wp (some (clear d σ)) fun σ => Wp (E.T.sz t) fun n => Wp (cells? (opd E.T N ty σ x)) fun cs => Br (cs.length = n) (Wp (persistAll d 0 cs σ) fun r => Wp (some (r.1.set d (.c .box r.2))) L) False) False := by
  by_cases hd : d < N
  · simp [stepOp, hd, pureOp, effOp]
  · simp [stepOp, hd, Br]
@[simp↓] theorem wp_store {t a x} : Wp (stepOp E call N ⟨none, .store t a x, ty, ps, af, gd⟩ σ) L = Wp (storeSt E.T N ty σ t a x) L := rfl

end
end Go.Proofs.Ytlbigobmhglppaa.R
