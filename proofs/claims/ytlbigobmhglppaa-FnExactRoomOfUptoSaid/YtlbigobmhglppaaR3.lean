/- What the plain values of the evaluator say of the machine's memory: a cell reads as a value; a slot as what the evaluator holds of it. -/
import Derived.Test.YtlbigobmhglppaaR2
set_option linter.unusedVariables false
set_option linter.unusedSimpArgs false
namespace Go.Proofs.Ytlbigobmhglppaa.R
open Go

mutual
/-- The value v reads as p, in blocks of V alone. -/
inductive Rd (h : Array Obj) (V : Nat → Prop) : Value → PV → Prop
  | i (k : IntKind) (n : Int) : Rd h V (.int k n) (.i k n)
  | b (x : Bool) : Rd h V (.bool x) (.b x)
  | t (s : ByteArray) : Rd h V (.string s) (.t s)
  | s0 (a : Option Addr) (cap es : Nat) : Rd h V (.slice a 0 cap) (.s es [])
  | s (blk off n cap es : Nat) (c : Array Value) (elem : TypeId) (fr : Nat × Nat) (rows : List (List PV)) : V blk → h[blk]? = some (.cells c elem fr) →
      n = rows.length → n ≤ cap → RdRows h V c off es rows → Rd h V (.slice (some ⟨blk, off, none⟩) n cap) (.s es rows)
inductive RdRows (h : Array Obj) (V : Nat → Prop) : Array Value → Nat → Nat → List (List PV) → Prop
  | nil (c : Array Value) (off es : Nat) : RdRows h V c off es []
  | cons (c : Array Value) (off es : Nat) (row : List PV) (rows : List (List PV)) : row.length = es → RdRow h V c off row → RdRows h V c (off + es) es rows → RdRows h V c off es (row :: rows)
inductive RdRow (h : Array Obj) (V : Nat → Prop) : Array Value → Nat → List PV → Prop
  | nil (c : Array Value) (off : Nat) : RdRow h V c off []
  | cons (c : Array Value) (off : Nat) (x : Value) (p : PV) (ps : List PV) : c[off]? = some x → Rd h V x p → RdRow h V c (off + 1) ps → RdRow h V c off (p :: ps)
end

mutual
theorem Rd.mono {h h' : Array Obj} {V V' : Nat → Prop} {v : Value} {p : PV} (x : Rd h V v p) (H : ∀ b, V b → V' b ∧ h'[b]? = h[b]?) : Rd h' V' v p :=
  match x with
  | .i k n => .i k n
  | .b x => .b x
  | .t s => .t s
  | .s0 a cap es => .s0 a cap es
  | .s blk off n cap es c elem fr rows hv hb hn hc hr => .s blk off n cap es c elem fr rows (H _ hv).1 ((H _ hv).2.trans hb) hn hc (hr.mono H)
theorem RdRows.mono {h h' : Array Obj} {V V' : Nat → Prop} {c : Array Value} {off es : Nat} {rows : List (List PV)} (x : RdRows h V c off es rows) (H : ∀ b, V b → V' b ∧ h'[b]? = h[b]?) : RdRows h' V' c off es rows :=
  match x with
  | .nil c off es => .nil c off es
  | .cons c off es row rows hl hr hs => .cons c off es row rows hl (hr.mono H) (hs.mono H)
theorem RdRow.mono {h h' : Array Obj} {V V' : Nat → Prop} {c : Array Value} {off : Nat} {row : List PV} (x : RdRow h V c off row) (H : ∀ b, V b → V' b ∧ h'[b]? = h[b]?) : RdRow h' V' c off row :=
  match x with
  | .nil c off => .nil c off
  | .cons c off x p ps hc hp hs => .cons c off x p ps hc (hp.mono H) (hs.mono H)
end

theorem RdRow.get {h : Array Obj} {V : Nat → Prop} {c : Array Value} : ∀ {off : Nat} {row : List PV}, RdRow h V c off row → ∀ j p, row[j]? = some p → ∃ x, c[off + j]? = some x ∧ Rd h V x p
  | _, _, .nil _ _, j, p, e => by simp at e
  | _, _, .cons c off x q ps hc hp hs, j, p, e => by
    cases j with
    | zero => simp at e; subst e; exact ⟨x, by simpa using hc, hp⟩
    | succ j =>
      simp at e
      obtain ⟨y, hy, hr⟩ := hs.get j p e
      exact ⟨y, by rw [← hy]; congr 1; omega, hr⟩

theorem RdRows.get {h : Array Obj} {V : Nat → Prop} {c : Array Value} : ∀ {off es : Nat} {rows : List (List PV)}, RdRows h V c off es rows → ∀ i row, rows[i]? = some row → row.length = es ∧ RdRow h V c (off + i * es) row
  | _, _, _, .nil _ _ _, i, row, e => by simp at e
  | _, _, _, .cons c off es r rows hl hr hs, i, row, e => by
    cases i with
    | zero => simp at e; subst e; exact ⟨hl, by simpa using hr⟩
    | succ i =>
      simp at e
      obtain ⟨h1, h2⟩ := hs.get i row e
      refine ⟨h1, ?_⟩
      have : off + (i + 1) * es = off + es + i * es := by rw [Nat.succ_mul]; omega
      rw [this]; exact h2

theorem RdRow.mk {h : Array Obj} {V : Nat → Prop} {c : Array Value} : ∀ {row : List PV} {off : Nat}, (∀ j p, row[j]? = some p → ∃ x, c[off + j]? = some x ∧ Rd h V x p) → RdRow h V c off row
  | [], off, _ => .nil c off
  | p :: ps, off, H => by
    obtain ⟨x, hx, hr⟩ := H 0 p rfl
    refine .cons c off x p ps (by simpa using hx) hr (RdRow.mk fun j q e => ?_)
    obtain ⟨y, hy, hs⟩ := H (j + 1) q (by simpa using e)
    exact ⟨y, by rw [← hy]; congr 1; omega, hs⟩

theorem RdRows.mk {h : Array Obj} {V : Nat → Prop} {c : Array Value} {es : Nat} : ∀ {rows : List (List PV)} {off : Nat}, (∀ i row, rows[i]? = some row → row.length = es ∧ RdRow h V c (off + i * es) row) → RdRows h V c off es rows
  | [], off, _ => .nil c off es
  | r :: rs, off, H => by
    obtain ⟨h1, h2⟩ := H 0 r rfl
    refine .cons c off es r rs h1 (by simpa using h2) (RdRows.mk fun i row e => ?_)
    obtain ⟨h3, h4⟩ := H (i + 1) row (by simpa using e)
    refine ⟨h3, ?_⟩
    have : off + (i + 1) * es = off + es + i * es := by rw [Nat.succ_mul]; omega
    rw [← this]; exact h4

/-- Who a block belongs to: a slot, a place (0: the variable itself, o + 1: its cell o's slice), where the slice begins, how many elements it has. -/
abbrev Own := Nat × Nat × Nat × Nat

structure Ctx where
  w : World
  own : Nat → Option Own
  va : Nat → Prop
  vs : Nat → Prop

def Ctx.V (X : Ctx) (f : Bool) (b : Nat) : Prop := X.vs b ∨ (f = true ∧ X.va b)

def free (fr : Nat × Nat) (n : Nat) : Prop := ∀ o, o < n → ¬(fr.1 ≤ o ∧ o < fr.2)

/-- A slice that its cell owns. -/
structure OwRel (X : Ctx) (k j : Nat) (v : Value) (f : Bool) (es : Nat) (rows : List (List PV)) (blk off cap : Nat) (c : Array Value) (elem : TypeId) (fr : Nat × Nat) : Prop where
  val : v = .slice (some ⟨blk, off, none⟩) rows.length cap
  le : rows.length ≤ cap
  own : X.own blk = some (k, j + 1, off, rows.length)
  cells : X.w.heap[blk]? = some (.cells c elem fr)
  fits : off + cap * es ≤ c.size
  loose : free fr c.size
  reads : RdRows X.w.heap (X.V f) c off es rows

structure BrRel (X : Ctx) (s o kd lo : Nat) (v : Value) (f : Bool) (es : Nat) (rows : List (List PV)) (blk base tip cap : Nat) (c : Array Value) (elem : TypeId) (fr : Nat × Nat) : Prop where
  val : v = .slice (some ⟨blk, base + lo * es, none⟩) rows.length cap
  le : rows.length ≤ cap
  own : X.own blk = some (s, o + 1, base, tip)
  cells : X.w.heap[blk]? = some (.cells c elem fr)
  fits : base + lo * es + cap * es ≤ c.size
  loose : free fr c.size
  tipLe : lo + rows.length ≤ tip
  tip1 : kd ≤ 1 → lo + rows.length = tip
  lo0 : kd = 0 → lo = 0
  reads : RdRows X.w.heap (X.V f) c (base + lo * es) es rows

/-- A cell of slot k, its place j, holds v. -/
inductive CVRel (X : Ctx) (k j : Nat) : Value → CV → Prop
  | sh (f : Bool) (p : PV) (v : Value) : Rd X.w.heap (X.V f) v p → CVRel X k j v (.sh f p)
  | ow0 (f : Bool) (es : Nat) (a : Option Addr) : CVRel X k j (.slice a 0 0) (.ow f es [])
  | ow (f : Bool) (es : Nat) (rows : List (List PV)) (v : Value) (blk off cap : Nat) (c : Array Value) (elem : TypeId) (fr : Nat × Nat) : OwRel X k j v f es rows blk off cap c elem fr → CVRel X k j v (.ow f es rows)
  | br0 (s o kd lo : Nat) (f : Bool) (es : Nat) (a : Option Addr) : CVRel X k j (.slice a 0 0) (.br s o kd lo f es [])
  | br (s o kd lo : Nat) (f : Bool) (es : Nat) (rows : List (List PV)) (v : Value) (blk base tip cap : Nat) (c : Array Value) (elem : TypeId) (fr : Nat × Nat) : BrRel X s o kd lo v f es rows blk base tip cap c elem fr → CVRel X k j v (.br s o kd lo f es rows)
  | brv (s o lo : Nat) (f : Bool) (es : Nat) (rows : List (List PV)) (v : Value) : Rd X.w.heap (X.V f) v (.s es rows) → CVRel X k j v (.br s o 2 lo f es rows)
  | dead (v : Value) : CVRel X k j v .dead

/-- The values of the cells from place j on. -/
inductive CellsRel (X : Ctx) (k : Nat) : Nat → List Value → List CV → Prop
  | nil (j : Nat) : CellsRel X k j [] []
  | cons (j : Nat) (v : Value) (cv : CV) (vs : List Value) (l : List CV) : CVRel X k j v cv → CellsRel X k (j + 1) vs l → CellsRel X k j (v :: vs) (cv :: l)

/-- A value's cells, by its shape. -/
inductive Flat : Shape → Value → List Value → Prop
  | one (v : Value) : (∀ cs, v ≠ .agg cs) → Flat .one v [v]
  | agg (cs : Array Value) : Flat .agg (.agg cs) cs.toList
  | tup (l : List (Bool × Nat)) (vs : Array Value) (fs : List (List Value)) : fs.length = l.length → vs.size = l.length →
      (∀ (i : Nat) (v : Value) (a : Bool) (n : Nat) (f : List Value), vs[i]? = some v → l[i]? = some (a, n) → fs[i]? = some f → f.length = n ∧ ((a = true ∧ ∃ cs : Array Value, v = .agg cs ∧ f = cs.toList) ∨ (a = false ∧ f = [v] ∧ ∀ cs, v ≠ .agg cs))) →
      Flat (.tup l) (.tuple vs) fs.flatten

/-- What the evaluator holds of a slot. -/
inductive SVRel (X : Ctx) (k : Nat) : Value → SV → Prop
  | undef (v : Value) : SVRel X k v .undef
  | c (sh : Shape) (v : Value) (vs : List Value) (l : List CV) : Flat sh v vs → CellsRel X k 0 vs l → SVRel X k v (.c sh l)
  | box (blk base tip : Nat) (c : Array Value) (elem : TypeId) (fr : Nat × Nat) (l : List CV) : X.own blk = some (k, 0, base, tip) → X.w.heap[blk]? = some (.cells c elem fr) → free fr c.size →
      CellsRel X k 0 c.toList l → SVRel X k (.pointer (some ⟨blk, 0, none⟩)) (.c .box l)
  | bp (s o blk base tip : Nat) : X.own blk = some (s, 0, base, tip) → SVRel X k (.pointer (some ⟨blk, o, none⟩)) (.bp s o)
  | ep (s o kd : Nat) (fl : Bool) (es i f : Nat) (row : List PV) (blk off base tip : Nat) (c : Array Value) (elem : TypeId) (fr : Nat × Nat) : X.own blk = some (s, o + 1, base, tip) → off = base + i * es → row.length = es →
      X.w.heap[blk]? = some (.cells c elem fr) → free fr c.size → RdRow X.w.heap (X.V fl) c off row → SVRel X k (.pointer (some ⟨blk, off + f, none⟩)) (.ep s o kd fl es i f row)
  | epv (s o : Nat) (fl : Bool) (es i f : Nat) (row : List PV) (blk off : Nat) (c : Array Value) (elem : TypeId) (fr : Nat × Nat) : X.V fl blk →
      X.w.heap[blk]? = some (.cells c elem fr) → RdRow X.w.heap (X.V fl) c off row → SVRel X k (.pointer (some ⟨blk, off + f, none⟩)) (.ep s o 2 fl es i f row)
  | sp (fl : Bool) (row : List PV) (f blk off : Nat) (c : Array Value) (elem : TypeId) (fr : Nat × Nat) : X.V fl blk → X.w.heap[blk]? = some (.cells c elem fr) → RdRow X.w.heap (X.V fl) c off row →
      SVRel X k (.pointer (some ⟨blk, off + f, none⟩)) (.sp fl row f)
  | fn (g : FuncId) (caps : List Nat) (cs : Array Value) : cs.size = caps.length → (∀ (i : Nat) (v : Value) (s : Nat), cs[i]? = some v → caps[i]? = some s → ∃ (blk base tip : Nat), v = Value.pointer (some ⟨blk, 0, none⟩) ∧ X.own blk = some (s, 0, base, tip)) →
      SVRel X k (.func (.func g) #[] cs) (.fn g caps)

structure Inv (X : Ctx) : Prop where
  own : ∀ b t, X.own b = some t → b < X.w.heap.size ∧ ¬X.vs b ∧ ¬X.va b
  one : ∀ b b' s o base tip base' tip', X.own b = some (s, o, base, tip) → X.own b' = some (s, o, base', tip') → b = b'
  vs : ∀ b, X.vs b → b < X.w.heap.size
  va : ∀ b, X.va b → b < X.w.heap.size

def Frame (X : Ctx) (vs : List Value) (σ : St) : Prop := vs.length = σ.length ∧ ∀ k v sv, vs[k]? = some v → σ[k]? = some sv → SVRel X k v sv

/-- From X the call has come to X'. -/
structure Goes (X X' : Ctx) : Prop where
  os : X'.w.os = X.w.os
  tape : X'.w.tape = X.w.tape
  output : X'.w.output = X.w.output
  size : X.w.heap.size ≤ X'.w.heap.size
  keep : ∀ b, b < X.w.heap.size → X.own b = none → X'.w.heap[b]? = X.w.heap[b]?
  va : X'.va = X.va
  vs : ∀ b, X.vs b → X'.vs b
  vs' : ∀ b, X'.vs b → X.vs b ∨ X.own b ≠ none ∨ X.w.heap.size ≤ b
  own' : ∀ b, X'.own b ≠ none → X.own b ≠ none ∨ X.w.heap.size ≤ b

theorem Goes.refl (X : Ctx) : Goes X X := ⟨rfl, rfl, rfl, Nat.le_refl _, fun _ _ _ => rfl, rfl, fun _ h => h, fun _ h => .inl h, fun _ h => .inl h⟩
theorem Goes.trans {X Y Z : Ctx} (a : Goes X Y) (b : Goes Y Z) : Goes X Z where
  os := b.os.trans a.os
  tape := b.tape.trans a.tape
  output := b.output.trans a.output
  size := Nat.le_trans a.size b.size
  keep := fun k hk ho => by
    have : Y.own k = none := by
      cases e : Y.own k with
      | none => rfl
      | some t => rcases a.own' k (by simp [e]) with h | h
                  · exact absurd ho h
                  · omega
    exact (b.keep k (Nat.lt_of_lt_of_le hk a.size) this).trans (a.keep k hk ho)
  va := b.va.trans a.va
  vs := fun k h => b.vs k (a.vs k h)
  vs' := fun k h => by
    rcases b.vs' k h with h | h | h
    · exact a.vs' k h
    · rcases a.own' k h with h | h
      · exact .inr (.inl h)
      · exact .inr (.inr h)
    · exact .inr (.inr (Nat.le_trans a.size h))
  own' := fun k h => by
    rcases b.own' k h with h | h
    · exact a.own' k h
    · exact .inr (Nat.le_trans a.size h)

end Go.Proofs.Ytlbigobmhglppaa.R
