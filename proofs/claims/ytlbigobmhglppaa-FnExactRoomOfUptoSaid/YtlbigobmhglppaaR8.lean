/- The operations that do nothing but answer: what the machine answers reads as what the evaluator answers (numbers, texts, addresses, loads). -/
import Derived.Test.YtlbigobmhglppaaR7
import Derived.Laws.IdiomCopy
set_option linter.unusedVariables false
set_option linter.unusedSimpArgs false
namespace Go.Proofs.Ytlbigobmhglppaa.R
open Go

/-- The value of a cell that lies in no array; of a slice: nil. -/
def PV.val : PV → Value
  | .i k n => .int k n
  | .b x => .bool x
  | .t x => .string x
  | .s _ _ => .slice none 0 0

def isAgB (d : TypeDesc) : Bool :=
  match d with
  | .struct _ | .array _ _ => true
  | _ => false

/-- The tables tell what the program's types are. -/
structure TOk (P : Program) (T : Tys) : Prop where
  sl : ∀ t e, T.sl t = some e → P.underlying t = some (.slice e)
  sz : ∀ t n, T.sz t = some n → ∃ i, P.info? t = some i ∧ i.size = n
  byt : ∀ t n, T.byt t = some n → ∃ i, P.info? t = some i ∧ i.bytes = n
  ag1 : ∀ t, T.ag t = some true → ∃ fs, P.underlying t = some (.struct fs)
  ag0 : ∀ t, T.ag t = some false → ∃ d, P.underlying t = some d ∧ isAgB d = false
  zr : ∀ t l, T.zr t = some l → ∃ i v, P.info? t = some i ∧ i.zero = some v ∧ v.cells.toList = l.map PV.val ∧ (∀ p ∈ l, p.scalar = true ∨ ∃ es, p = .s es [])
  fo : ∀ t f d, T.fo t f = some d → ∃ fs fl i, P.underlying t = some (.struct fs) ∧ fs[f]? = some fl ∧ fl.offset = d ∧ P.info? fl.type = some i ∧ i.size ≠ 0
  fz : ∀ t f n, T.fz t f = some n → ∃ fs fl i, P.underlying t = some (.struct fs) ∧ fs[f]? = some fl ∧ P.info? fl.type = some i ∧ i.size = n
  fi : ∀ t fs, T.ag t = some true → P.underlying t = some (.struct fs) → ∀ fl ∈ fs, ∃ i, P.info? fl.type = some i
  ik : ∀ t k, T.ik t = some k → P.underlying t = some (.int k)
  str : ∀ t, T.str t = true → P.underlying t = some .string
  boo : ∀ t, T.boo t = true → P.underlying t = some .bool

section
variable {P : Program} {w : World}
theorem run_und {t : TypeId} {d : TypeDesc} (h : P.underlying t = some d) : (underlying t).run P w = .ok d w := by
  simp [underlying, h]
theorem run_inf {t : TypeId} {i : TypeInfo} (h : P.info? t = some i) : (typeInfo t).run P w = .ok i w := by
  simp [typeInfo, h]
theorem run_siz {t : TypeId} {i : TypeInfo} (h : P.info? t = some i) : (sizeOf t).run P w = .ok i.size w := by
  simp [sizeOf, run_inf h]
end

theorem underlying_info {P : Program} {t : TypeId} {d : TypeDesc} (h : P.underlying t = some d) : ∃ i, P.info? t = some i := by
  unfold Program.underlying at h
  cases e : P.info? t with
  | none => simp [e] at h
  | some i => exact ⟨i, rfl⟩

/-- A value that reads as a cell, whatever is nobody's. -/
theorem rd_scalar {h : Array Obj} {V : Nat → Prop} {p : PV} (hp : p.scalar = true) : Rd h V p.val p := by
  cases p with
  | i k n => exact .i k n
  | b x => exact .b x
  | t s => exact .t s
  | s es rows => simp [PV.scalar] at hp

theorem rd_val {h : Array Obj} {V : Nat → Prop} {p : PV} {v : Value} (hp : p.scalar = true) (r : Rd h V v p) : v = p.val := by
  cases r with
  | i k n => rfl
  | b x => rfl
  | t s => rfl
  | s0 => simp [PV.scalar] at hp
  | s => simp [PV.scalar] at hp

theorem not_agg_of_rd {h : Array Obj} {V : Nat → Prop} {p : PV} {v : Value} (r : Rd h V v p) : (∀ cs, v ≠ .agg cs) := by
  cases r <;> intro cs e <;> cases e
theorem rd_one {h : Array Obj} {V : Nat → Prop} {p : PV} {v : Value} (r : Rd h V v p) : v.oneCell' = true := by
  cases r <;> rfl

/-- An operand's slot: it reads in whatever slot it is. -/
def OSV (X : Ctx) (v : Value) (sv : SV) : Prop := ∀ k, SVRel X k v sv

theorem view_cv {X : Ctx} {k j : Nat} {v : Value} {c : CV} (h : CVRel X k j v c) : ∀ k' j', CVRel X k' j' v (c.view k j) := by
  intro k' j'
  cases h with
  | sh f p v h => exact .sh f p v h
  | ow0 f es a => exact .br0 k j 0 0 f es a
  | ow f es rows v blk off cap c elem fr h =>
    exact .br k j 0 0 f es rows v blk off rows.length cap c elem fr ⟨by rw [h.val]; simp, h.le, h.own, h.cells, by simpa using h.fits, h.loose, by simp, fun _ => by simp, fun _ => rfl, by simpa using h.reads⟩
  | br0 s o kd lo f es a => exact .br0 s o kd lo f es a
  | br s o kd lo f es rows v blk base tip cap c elem fr h => exact .br s o kd lo f es rows v blk base tip cap c elem fr h
  | brv s o lo f es rows v h => exact .brv s o lo f es rows v h
  | dead v => exact .dead v

theorem view_cells {X : Ctx} {k : Nat} : ∀ {j : Nat} {vs : List Value} {l : List CV}, CellsRel X k j vs l → ∀ k' j', CellsRel X k' j' vs (mapAll (CV.view k) j l)
  | _, _, _, .nil j, k', j' => .nil j'
  | _, _, _, .cons j v cv vs l h t, k', j' => .cons j' v _ vs _ (view_cv h k' j') (view_cells t k' (j' + 1))

theorem view_sv {X : Ctx} {k : Nat} {v : Value} {sv : SV} (h : SVRel X k v sv) : OSV X v (sv.view k) := by
  intro k'
  cases h with
  | undef v => exact .undef v
  | c sh v vs l hf hc =>
    cases sh with
    | box => cases hf
    | one => exact .c .one v vs _ hf (view_cells hc k' 0)
    | agg => exact .c .agg v vs _ hf (view_cells hc k' 0)
    | tup ts => exact .c (.tup ts) v vs _ hf (view_cells hc k' 0)
  | box blk base tip c elem fr l ho hb hfr hc => exact .bp k 0 blk base tip ho
  | bp s o blk base tip ho => exact .bp s o blk base tip ho
  | ep s o kd fl es i f row blk off base tip c elem fr ho he hl hb hfr hr => exact .ep s o kd fl es i f row blk off base tip c elem fr ho he hl hb hfr hr
  | epv s o fl es i f row blk off c elem fr hv hb hr => exact .epv s o fl es i f row blk off c elem fr hv hb hr
  | sp fl row f blk off c elem fr hv hb hr => exact .sp fl row f blk off c elem fr hv hb hr
  | fn g caps cs hs hc => exact .fn g caps cs hs hc

theorem const_sv {X : Ctx} {T : Tys} {ty : TypeId} (v : Value) : OSV X v (constSV T ty v) := by
  intro k
  unfold constSV
  split
  · rename_i kk n; exact .c .one _ [_] _ (.one _ (by intro cs e; cases e)) (.cons 0 _ _ _ _ (.sh false _ _ (.i kk n)) (.nil 1))
  · rename_i x; exact .c .one _ [_] _ (.one _ (by intro cs e; cases e)) (.cons 0 _ _ _ _ (.sh false _ _ (.b x)) (.nil 1))
  · rename_i s; exact .c .one _ [_] _ (.one _ (by intro cs e; cases e)) (.cons 0 _ _ _ _ (.sh false _ _ (.t s)) (.nil 1))
  · split
    · rename_i es _; exact .c .one _ [_] _ (.one _ (by intro cs e; cases e)) (.cons 0 _ _ _ _ (.ow0 false es none) (.nil 1))
    · exact .undef _
  · exact .undef _

/-- The machine's slots and what is handed beside them. -/
def All (a : Act) (gv : List Value) : List Value := a.tmps.toList ++ gv

theorem opd_sv {X : Ctx} {T : Tys} {ty : TypeId} {a : Act} {gv : List Value} {σ : St} {E : Nat → Nat → Prop} {N : Nat} (h : Good X (All a gv) σ E) (hN : N = a.tmps.size) (x : Operand) : OSV X (a.eval x) (opd T N ty σ x) := by
  cases x with
  | tmp t =>
    simp only [opd]
    split
    · rename_i ht
      have hlt : t < a.tmps.size := hN ▸ ht
      cases e : σ[t]? with
      | none => simp [List.getD_eq_getElem?_getD, e, SV.view]; exact fun k => .undef _
      | some sv =>
        have hv : (All a gv)[t]? = some (a.tmps[t]'hlt) := by
          unfold All
          rw [List.getElem?_append_left (by simpa using hlt)]
          simp
        have := h.frame.2 t _ _ hv e
        simp only [List.getD_eq_getElem?_getD, e, Option.getD_some, Act.eval]
        have e2 : a.tmps.getD t undef = a.tmps[t] := by simp [hlt]
        rw [e2]
        exact view_sv this
    · exact fun k => .undef _
  | const v => exact const_sv v
  | global g => exact fun k => .undef _
  | func f => exact fun k => .fn f [] #[] rfl (fun i v s h1 h2 => by simp at h1)

/-- One cell's operand. -/
theorem one_sv {X : Ctx} {v : Value} {sv : SV} {c : CV} (h : OSV X v sv) (e : sv.one? = some c) : (∀ k, CVRel X k 0 v c) ∧ (∀ cs, v ≠ .agg cs) := by
  unfold SV.one? at e
  split at e
  · rename_i y
    injection e with e; subst e
    have h0 : ∀ k, CVRel X k 0 v y ∧ (∀ cs, v ≠ .agg cs) := by
      intro k
      have := h k
      cases this with
      | c _ _ vs _ hf hc =>
        cases hf with
        | one _ hn =>
          cases hc with
          | cons _ _ _ _ _ hc _ => exact ⟨hc, hn⟩
    exact ⟨fun k => (h0 k).1, (h0 0).2⟩
  · simp at e

/-- What a cell reads as, whoever owns it. -/
theorem p_rd {X : Ctx} {k j : Nat} {v : Value} {c : CV} {f : Bool} {p : PV} (h : CVRel X k j v c) (e : c.p? = some (f, p)) : ∃ V, Rd X.w.heap V v p := by
  unfold CV.p? at e
  split at e
  · injection e with e; injection e with e1 e2; subst e1; subst e2
    cases h with | sh _ _ _ h => exact ⟨_, h⟩
  · injection e with e; injection e with e1 e2; subst e1; subst e2
    cases h with
    | ow0 _ _ a => exact ⟨fun _ => True, .s0 a 0 _⟩
    | ow _ _ rows _ blk off cap c elem fr h =>
      rw [h.val]
      exact ⟨fun _ => True, .s blk off _ cap _ c elem fr _ trivial h.cells rfl h.le (h.reads.mono fun _ _ => ⟨trivial, rfl⟩)⟩
  · injection e with e; injection e with e1 e2; subst e1; subst e2
    cases h with
    | br0 _ _ _ _ _ _ a => exact ⟨fun _ => True, .s0 a 0 _⟩
    | br _ _ _ _ _ _ _ _ blk base tip cap c elem fr h =>
      rw [h.val]
      exact ⟨fun _ => True, .s blk _ _ cap _ c elem fr _ trivial h.cells rfl h.le (h.reads.mono fun _ _ => ⟨trivial, rfl⟩)⟩
    | brv _ _ _ _ _ _ _ h => exact ⟨_, h⟩
  · simp at e

theorem pv_sv {X : Ctx} {v : Value} {sv : SV} {p : PV} (h : OSV X v sv) (e : sv.pv? = some p) : (∃ V, Rd X.w.heap V v p) ∧ (∀ cs, v ≠ .agg cs) := by
  unfold SV.pv? at e
  cases e1 : sv.one? with
  | none => simp [e1] at e
  | some c =>
    simp only [e1, Option.bind_some] at e
    obtain ⟨h1, h2⟩ := one_sv h e1
    cases e2 : c.p? with
    | none => simp [e2] at e
    | some fp =>
      obtain ⟨f, q⟩ := fp
      simp [e2] at e
      subst e
      exact ⟨p_rd (h1 0) e2, h2⟩

theorem pv_val {X : Ctx} {v : Value} {sv : SV} {p : PV} (h : OSV X v sv) (e : sv.pv? = some p) (hp : p.scalar = true) : v = p.val := by
  obtain ⟨⟨V, h1⟩, _⟩ := pv_sv h e
  exact rd_val hp h1

theorem int_sv {X : Ctx} {v : Value} {sv : SV} {k : IntKind} {n : Int} (h : OSV X v sv) (e : sv.int? = some (k, n)) : v = .int k n := by
  unfold SV.int? at e
  cases e1 : sv.pv? with
  | none => simp [e1] at e
  | some p =>
    simp only [e1, Option.bind_some] at e
    split at e
    · injection e with e; injection e with e2 e3; subst e2; subst e3
      exact pv_val h e1 rfl
    · simp at e

theorem bool_sv {X : Ctx} {v : Value} {sv : SV} {b : Bool} (h : OSV X v sv) (e : sv.bool? = some b) : v = .bool b := by
  unfold SV.bool? at e
  cases e1 : sv.pv? with
  | none => simp [e1] at e
  | some p =>
    simp only [e1, Option.bind_some] at e
    split at e
    · injection e with e; subst e
      exact pv_val h e1 rfl
    · simp at e

theorem pvSV_rel {X : Ctx} {p : PV} (hp : p.scalar = true) : OSV X p.val (pvSV p) := fun k =>
  .c .one _ [_] _ (.one _ (not_agg_of_rd (rd_scalar (h := #[]) (V := fun _ => True) hp))) (.cons 0 _ _ _ _ (.sh false p _ (rd_scalar hp)) (.nil 1))

end Go.Proofs.Ytlbigobmhglppaa.R
