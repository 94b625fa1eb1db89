/- The operations that do nothing but answer, one by one. -/
import Derived.Test.YtlbigobmhglppaaR8
set_option linter.unusedVariables false
set_option linter.unusedSimpArgs false
namespace Go.Proofs.Ytlbigobmhglppaa.R
open Go

theorem any_cv {X : Ctx} {j : Nat} {v : Value} {c : CV} (h : ∀ k, CVRel X k j v c) : ∀ k j', CVRel X k j' v c := by
  intro k j'
  cases c with
  | sh f p => have := h k; cases this with | sh _ _ _ h => exact .sh f p v h
  | ow f es rows => obtain ⟨rfl, a, rfl⟩ := no_ow h; exact .ow0 f es a
  | br s o kd lo f es rows =>
    have := h k
    cases this with
    | br0 _ _ _ _ _ _ a => exact .br0 s o kd lo f es a
    | br _ _ _ _ _ _ _ _ blk base tip cap c elem fr h => exact .br s o kd lo f es rows v blk base tip cap c elem fr h
    | brv _ _ _ _ _ _ _ h => exact .brv s o lo f es rows v h
  | dead => exact .dead v

/-- Cells that read in whatever slot they are. -/
inductive VCells (X : Ctx) : List Value → List CV → Prop
  | nil : VCells X [] []
  | cons (v : Value) (c : CV) (vs : List Value) (l : List CV) : (∀ k j, CVRel X k j v c) → VCells X vs l → VCells X (v :: vs) (c :: l)

theorem VCells.cells {X : Ctx} {k : Nat} : ∀ {j : Nat} {vs : List Value} {l : List CV}, VCells X vs l → CellsRel X k j vs l
  | j, _, _, .nil => .nil j
  | j, _, _, .cons v c vs l h t => .cons j v c vs l (h k j) (VCells.cells t)
theorem VCells.mk {X : Ctx} : ∀ {j : Nat} {vs : List Value} {l : List CV}, (∀ k, CellsRel X k j vs l) → VCells X vs l
  | j, [], [], h => .nil
  | j, [], c :: l, h => by have := h 0; cases this
  | j, v :: vs, [], h => by have := h 0; cases this
  | j, v :: vs, c :: l, h => .cons v c vs l (any_cv (j := j) fun k => by have := h k; cases this; assumption) (VCells.mk (j := j + 1) fun k => by have := h k; cases this; assumption)
theorem VCells.length {X : Ctx} : ∀ {vs : List Value} {l : List CV}, VCells X vs l → vs.length = l.length
  | _, _, .nil => rfl
  | _, _, .cons v c vs l h t => by simp [VCells.length t]
theorem VCells.view {X : Ctx} {k : Nat} : ∀ {j : Nat} {vs : List Value} {l : List CV}, CellsRel X k j vs l → VCells X vs (mapAll (CV.view k) j l)
  | _, _, _, .nil j => .nil
  | _, _, _, .cons j v cv vs l h t => .cons v _ vs _ (view_cv h) (VCells.view t)
theorem VCells.drop {X : Ctx} : ∀ {vs : List Value} {l : List CV} (n : Nat), VCells X vs l → VCells X (vs.drop n) (l.drop n)
  | _, _, 0, h => by simpa using h
  | _, _, n + 1, .nil => by simpa using VCells.nil
  | _, _, n + 1, .cons v c vs l h t => by simpa using VCells.drop n t
theorem VCells.take {X : Ctx} : ∀ {vs : List Value} {l : List CV} (n : Nat), VCells X vs l → VCells X (vs.take n) (l.take n)
  | _, _, 0, h => by simpa using VCells.nil
  | _, _, n + 1, .nil => by simpa using VCells.nil
  | _, _, n + 1, .cons v c vs l h t => by simpa using VCells.cons v c _ _ h (VCells.take n t)
theorem VCells.append {X : Ctx} : ∀ {vs vs' : List Value} {l l' : List CV}, VCells X vs l → VCells X vs' l' → VCells X (vs ++ vs') (l ++ l')
  | _, _, _, _, .nil, h => by simpa using h
  | _, _, _, _, .cons v c vs l h t, h' => .cons v c _ _ h (VCells.append t h')
theorem VCells.ocells {X : Ctx} {σ : St} : ∀ {vs : List Value} {l : List CV}, VCells X vs l → OCells X σ vs l
  | _, _, .nil => .nil
  | _, _, .cons v c vs l h t => .cons v c vs l (.inl h) (VCells.ocells t)

/-- An operand's cells. -/
theorem osv_cells {X : Ctx} {v : Value} {sh : Shape} {l : List CV} (h : OSV X v (.c sh l)) (hb : sh ≠ .box) : ∃ vs, Flat sh v vs ∧ VCells X vs l := by
  have h0 := h 0
  cases h0 with
  | c _ _ vs _ hf hc =>
    refine ⟨vs, hf, VCells.mk (j := 0) fun k => ?_⟩
    have := h k
    cases this with
    | c _ _ vs' _ hf' hc' =>
      have e : vs' = vs := by
        cases hf with
        | one _ _ => cases hf' with | one _ _ => rfl
        | agg cs => cases hf' with | agg cs' => rfl
        | tup ts xs fs h1 h2 h3 =>
          cases hf' with
          | tup _ _ fs' h1' h2' h3' =>
            congr 1
            apply List.ext_getElem?
            intro i
            by_cases hi : i < ts.length
            · obtain ⟨a, n, ht⟩ : ∃ a n, ts[i] = (a, n) := ⟨_, _, rfl⟩
              have e1 : ts[i]? = some (a, n) := by rw [List.getElem?_eq_getElem hi, ht]
              have e2 : xs[i]? = some (xs[i]'(by omega)) := Array.getElem?_eq_getElem (by omega)
              have e3 : fs[i]? = some (fs[i]'(by omega)) := List.getElem?_eq_getElem (by omega)
              have e4 : fs'[i]? = some (fs'[i]'(by omega)) := List.getElem?_eq_getElem (by omega)
              have g := h3 i _ a n _ e2 e1 e3
              have g' := h3' i _ a n _ e2 e1 e4
              rw [e3, e4]
              congr 1
              rcases g.2 with ⟨_, cs, e, f⟩ | ⟨_, f, e⟩
              · rcases g'.2 with ⟨_, cs', e', f'⟩ | ⟨_, f', e'⟩
                · rw [e] at e'; injection e' with e'; rw [f, f', e']
                · exact absurd e (e' cs)
              · rcases g'.2 with ⟨_, cs', e', f'⟩ | ⟨_, f', e'⟩
                · exact absurd e' (e cs')
                · rw [f, f']
            · rw [List.getElem?_eq_none (by omega), List.getElem?_eq_none (by omega)]
      rw [← e]; exact hc'
    | box => exact absurd rfl hb
  | box => exact absurd rfl hb

theorem osv_mk {X : Ctx} {v : Value} {sh : Shape} {vs : List Value} {l : List CV} (hf : Flat sh v vs) (hc : VCells X vs l) : OSV X v (.c sh l) := fun k => .c sh v vs l hf hc.cells

/-- What an operation that only answers comes to: the slot d reads as sv; no other mark has turned. -/
structure PureRes (X X' : Ctx) (d : Nat) (v : Value) (sv : SV) : Prop where
  goes : Goes X X'
  mono : Mono X X'
  inv : Inv X'
  new : ∀ b t, X'.own b = some t → X.own b = some t ∨ t.1 = d
  rel : SVRel X' d v sv
  tag : ∀ b p base tip, X'.own b = some (d, p + 1, base, tip) → X.own b = some (d, p + 1, base, tip) ∨ (svCell sv p).isOw = true
  tagb : ∀ b base tip, X'.own b = some (d, 0, base, tip) → X.own b = some (d, 0, base, tip) ∨ ∃ l, sv = .c .box l

theorem PureRes.same {X : Ctx} (hi : Inv X) {d : Nat} {v : Value} {sv : SV} (h : OSV X v sv) : PureRes X X d v sv :=
  ⟨.refl X, .refl X, hi, fun _ _ h => .inl h, h d, fun _ _ _ _ h => .inl h, fun _ _ _ h => .inl h⟩

theorem run_int {P : Program} {w : World} {op : BinOp} {k : IntKind} {a b : Int} {t : TypeId} {p : PV} (h : intOp op k a b = some p) : (binOp op t (.int k a) (.int k b)).run P w = .ok p.val w ∧ p.scalar = true := by
  cases op <;> simp only [intOp] at h <;> first
    | (injection h with h; subst h; exact ⟨by simp [binOp, Op.intArith, Op.intBits, Op.intCmp, PV.val], rfl⟩)
    | (split at h
       · simp at h
       · rename_i hb
         injection h with h; subst h
         exact ⟨by simp [binOp, Op.intDiv, hb, PV.val], rfl⟩)
    | (simp at h; done)

theorem run_str {P : Program} {w : World} {op : BinOp} {a b : ByteArray} {t : TypeId} {p : PV} (h : strOp op a b = some p) : (binOp op t (.string a) (.string b)).run P w = .ok p.val w ∧ p.scalar = true := by
  cases op <;> simp only [strOp] at h <;> first
    | (injection h with h; subst h; exact ⟨by simp [binOp, Op.stringOp, PV.val], rfl⟩)
    | (split at h
       · simp at h
       · rename_i hb
         injection h with h; subst h
         exact ⟨by simp only [binOp, Op.stringOp]; rw [if_neg hb]; rfl, rfl⟩)
    | (simp at h; done)

theorem run_guard {P : Program} {w : World} {op : BinOp} {t : TypeId} {x y : Operand} {a b : Value} (h : (∀ cs, a ≠ .agg cs) ∧ a ≠ .nilIface) : (eqGuard op t x y a b).run P w = .ok () w := by
  unfold eqGuard
  cases op <;> simp <;> (cases a <;> first | rfl | exact absurd rfl h.2 | exact absurd rfl (h.1 _))

theorem run_eqBoolIn {P : Program} {w : World} {t : TypeId} (hu : P.underlying t = some .bool) (d : Nat) (a b : Bool) : (Op.equalIn (d + 1) t (.bool a) (.bool b)).run P w = .ok (a == b) w := by
  rw [Op.equalIn]
  simp only [Sem.run_bind, run_und hu, Result.andThen_ok]
  rfl
theorem run_eqBool {P : Program} {w : World} {t : TypeId} (hu : P.underlying t = some .bool) (a b : Bool) : (Op.equal t (.bool a) (.bool b)).run P w = .ok (a == b) w := run_eqBoolIn hu 9999 a b

theorem bin_pv {P : Program} {T : Tys} (hT : TOk P T) {X : Ctx} {op : BinOp} {t : TypeId} {va vb : Value} {x y : SV} {p : PV} (hx : OSV X va x) (hy : OSV X vb y) (h : binSV T op t x y = some p) : (binOp op t va vb).run P X.w = .ok p.val X.w ∧ p.scalar = true ∧ (∀ cs, va ≠ .agg cs) ∧ va ≠ .nilIface := by
  unfold binSV at h
  · split at h
    · rename_i k a k' b ha hb
      have e1 := pv_val hx ha rfl
      have e2 := pv_val hy hb rfl
      subst e1; subst e2
      have hna : (∀ cs, (PV.i k a).val ≠ .agg cs) ∧ (PV.i k a).val ≠ .nilIface := ⟨(fun cs e => nomatch e), (fun e => nomatch e)⟩
      split at h
      · unfold shiftOp at h
        split at h
        · simp at h
        · rename_i hb0
          injection h with h; subst h
          exact ⟨by simp [binOp, Op.shift, PV.val, hb0], rfl, hna⟩
      · unfold shiftOp at h
        split at h
        · simp at h
        · rename_i hb0
          injection h with h; subst h
          exact ⟨by simp [binOp, Op.shift, PV.val, hb0], rfl, hna⟩
      · split at h
        · rename_i e; subst e
          have := run_int (P := P) (w := X.w) (t := t) h
          exact ⟨this.1, this.2, hna⟩
        · simp at h
    · rename_i a b ha hb
      have e1 := pv_val hx ha rfl
      have e2 := pv_val hy hb rfl
      subst e1; subst e2
      have := run_str (P := P) (w := X.w) (t := t) h
      exact ⟨this.1, this.2, ⟨(fun cs e => nomatch e), (fun e => nomatch e)⟩⟩
    · rename_i a b ha hb
      have e1 := pv_val hx ha rfl
      have e2 := pv_val hy hb rfl
      subst e1; subst e2
      split at h
      · rename_i hbo
        have hu := hT.boo t hbo
        split at h
        · injection h with h; subst h
          exact ⟨by simp only [binOp, Sem.run_bind, run_eqBool hu, Result.andThen_ok, PV.val, Sem.run_pure], rfl, ⟨(fun cs e => nomatch e), (fun e => nomatch e)⟩⟩
        · injection h with h; subst h
          exact ⟨by simp only [binOp, Sem.run_bind, run_eqBool hu, Result.andThen_ok, PV.val, Sem.run_pure], rfl, ⟨(fun cs e => nomatch e), (fun e => nomatch e)⟩⟩
        · simp at h
      · simp at h
    · simp at h

theorem un_pv {P : Program} {X : Ctx} {op : UnOp} {va : Value} {x : SV} {p : PV} (hx : OSV X va x) (h : unSV op x = some p) : (Op.unary op va).run P X.w = .ok p.val X.w ∧ p.scalar = true := by
  unfold unSV at h
  split at h
  · rename_i a ha
    have e1 := pv_val hx ha rfl
    subst e1
    injection h with h; subst h
    exact ⟨by simp [Op.unary, PV.val], rfl⟩
  · rename_i k n ha
    have e1 := pv_val hx ha rfl
    subst e1
    injection h with h; subst h
    exact ⟨by simp [Op.unary, PV.val, Op.intArith], rfl⟩
  · rename_i k n ha
    have e1 := pv_val hx ha rfl
    subst e1
    injection h with h; subst h
    exact ⟨by simp [Op.unary, PV.val, Op.intBits], rfl⟩
  · simp at h

end Go.Proofs.Ytlbigobmhglppaa.R
