/- What is handed in, as plain values: the arguments' reading. -/
import Derived.Test.YtlbigobmhglppaaR32
import Derived.Carry
import Derived.ChangeShapes
import Derived.WideShapes
set_option linter.unusedVariables false
set_option linter.unusedSimpArgs false
namespace Go.Proofs.Ytlbigobmhglppaa.R
open Go

/-- A type of plain data; a struct is a chain of its fields. -/
inductive STy where
  | int (k : IntKind) | bool | str
  | sl (e : STy)
  | nil
  | cons (a b : STy)

def STy.size : STy → Nat
  | .nil => 0
  | .cons a b => a.size + b.size
  | _ => 1

mutual
/-- The cells are of the type; n: how much they hold. -/
inductive Fits : STy → List PV → Nat → Prop
  | int (k : IntKind) (n : Int) : k.min ≤ n → n ≤ k.max → Fits (.int k) [.i k n] 1
  | bool (b : Bool) : Fits .bool [.b b] 1
  | str (s : ByteArray) : Fits .str [.t s] (s.size + 1)
  | sl (e : STy) (rows : List (List PV)) (n : Nat) : FitsRows e rows n → Fits (.sl e) [.s e.size rows] (n + 1)
  | nil : Fits .nil [] 0
  | cons (a b : STy) (x y : List PV) (n m : Nat) : Fits a x n → Fits b y m → Fits (.cons a b) (x ++ y) (n + m)
inductive FitsRows : STy → List (List PV) → Nat → Prop
  | nil (e : STy) : FitsRows e [] 0
  | cons (e : STy) (row : List PV) (rows : List (List PV)) (n m : Nat) : Fits e row n → FitsRows e rows m → FitsRows e (row :: rows) (n + m)
end

mutual
theorem Fits.length {e : STy} {l : List PV} {n : Nat} (h : Fits e l n) : l.length = e.size :=
  match h with
  | .int .. => rfl
  | .bool _ => rfl
  | .str _ => rfl
  | .sl .. => rfl
  | .nil => rfl
  | .cons a b x y n m h1 h2 => by rw [List.length_append, h1.length, h2.length]; rfl
end

mutual
inductive OfTy (P : Program) : TypeId → STy → Prop
  | int (t : TypeId) (k : IntKind) : P.underlying t = some (.int k) → OfTy P t (.int k)
  | bool (t : TypeId) : P.underlying t = some .bool → OfTy P t .bool
  | str (t : TypeId) : P.underlying t = some .string → OfTy P t .str
  | sl (t e : TypeId) (s : STy) : P.underlying t = some (.slice e) → OfTy P e s → P.cellsOf e = s.size → 0 < s.size → OfTy P t (.sl s)
  | st (t : TypeId) (fs : Array Field) (s : STy) : P.underlying t = some (.struct fs) → OfFields P 0 fs.toList s → P.cellsOf t = s.size → OfTy P t s
inductive OfFields (P : Program) : Nat → List Field → STy → Prop
  | nil (o : Nat) : OfFields P o [] .nil
  | cons (o : Nat) (f : Field) (fs : List Field) (a b : STy) : f.offset = o → OfTy P f.type a → P.cellsOf f.type = a.size → OfFields P (o + a.size) fs b → OfFields P o (f :: fs) (.cons a b)
end

mutual
def ofTy? (P : Program) : Nat → TypeId → Option STy
  | 0, _ => none
  | n + 1, t => match P.underlying t with
    | some (.int k) => some (.int k)
    | some .bool => some .bool
    | some .string => some .str
    | some (.slice e) => (ofTy? P n e).bind fun s => if P.cellsOf e = s.size ∧ 0 < s.size then some (.sl s) else none
    | some (.struct fs) => (ofFields? P n 0 fs.toList).bind fun s => if P.cellsOf t = s.size then some s else none
    | _ => none
def ofFields? (P : Program) : Nat → Nat → List Field → Option STy
  | _, _, [] => some .nil
  | 0, _, _ => none
  | n + 1, o, f :: fs => (ofTy? P n f.type).bind fun a => if f.offset = o ∧ P.cellsOf f.type = a.size then (ofFields? P n (o + a.size) fs).map fun b => .cons a b else none
end

mutual
theorem ofTy_ok {P : Program} : ∀ {n : Nat} {t : TypeId} {s : STy}, ofTy? P n t = some s → OfTy P t s
  | 0, t, s, h => by simp [ofTy?] at h
  | n + 1, t, s, h => by
    simp only [ofTy?] at h
    split at h
    · rename_i k e; injection h with h; subst h; exact .int t k e
    · rename_i e; injection h with h; subst h; exact .bool t e
    · rename_i e; injection h with h; subst h; exact .str t e
    · rename_i e he
      obtain ⟨s', h1, h⟩ := some_bind h
      split at h
      · rename_i hc; injection h with h; subst h; exact .sl t e s' he (ofTy_ok h1) hc.1 hc.2
      · simp at h
    · rename_i fs he
      obtain ⟨s', h1, h⟩ := some_bind h
      split at h
      · rename_i hc; injection h with h; subst h; exact .st t fs s' he (ofFields_ok h1) hc
      · simp at h
    · simp at h
theorem ofFields_ok {P : Program} : ∀ {n o : Nat} {fs : List Field} {s : STy}, ofFields? P n o fs = some s → OfFields P o fs s
  | 0, o, [], s, h => by simp only [ofFields?] at h; injection h with h; subst h; exact .nil o
  | n + 1, o, [], s, h => by simp only [ofFields?] at h; injection h with h; subst h; exact .nil o
  | 0, o, f :: fs, s, h => by simp [ofFields?] at h
  | n + 1, o, f :: fs, s, h => by
    simp only [ofFields?] at h
    obtain ⟨a, h1, h⟩ := some_bind h
    split at h
    · rename_i hc
      obtain ⟨b, h2, h⟩ := some_map h
      subst h
      exact .cons o f fs a b hc.1 (ofTy_ok h1) hc.2 (ofFields_ok h2)
    · simp at h
end

/-- The entry: nothing belongs to anybody; the arguments lie in what is there. -/
def entry (W : World) : Ctx := { w := W, own := fun _ => none, va := fun b => b < W.heap.size, vs := fun _ => False }

theorem entry_inv (W : World) : Inv (entry W) := ⟨fun b t h => by simp [entry] at h, fun b b' s o base tip base' tip' h => by simp [entry] at h, fun b h => h.elim, fun b h => h⟩

/-- How much a reading holds, as the seat's bulk has it. -/
structure BulkLaw {H : Type} (B : DataW H → Nat) (BA : List (DataW H) → Nat) : Prop where
  one : ∀ d, 1 ≤ B d
  str : ∀ l, l.length + 1 ≤ B (.lit (.string l))
  sl : ∀ e s, BA e + 1 ≤ B (.slice e s)
  agg : ∀ l, BA l ≤ B (.agg l)
  cons : ∀ d l, B d + BA l ≤ BA (d :: l)

theorem RdL.append {X : Ctx} {f : Bool} : ∀ {vs ws : List Value} {ps qs : List PV}, RdL X f vs ps → RdL X f ws qs → RdL X f (vs ++ ws) (ps ++ qs)
  | _, _, _, _, .nil, h => h
  | _, _, _, _, .cons v p vs ps h t, h' => .cons v p _ _ h (RdL.append t h')

theorem mapM_cons_some {α β : Type} {f : α → Option β} {x : α} {l : List α} {r : List β} (h : (x :: l).mapM f = some r) : ∃ y ys, f x = some y ∧ l.mapM f = some ys ∧ r = y :: ys := by
  simp only [List.mapM_cons, Option.bind_eq_bind] at h
  obtain ⟨y, h1, h⟩ := some_bind h
  obtain ⟨ys, h2, h⟩ := some_bind h
  injection h with h
  exact ⟨y, ys, h1, h2, h.symm⟩

theorem mapM_get {α β : Type} {f : α → Option β} : ∀ {l : List α} {r : List β}, l.mapM f = some r → r.length = l.length ∧ ∀ (i : Nat) (x : α), l[i]? = some x → ∃ y, f x = some y ∧ r[i]? = some y
  | [], r, h => by simp at h; subst h; exact ⟨rfl, fun i x hx => by simp at hx⟩
  | x :: l, r, h => by
    obtain ⟨y, ys, h1, h2, rfl⟩ := mapM_cons_some h
    obtain ⟨h3, h4⟩ := mapM_get h2
    refine ⟨by simp [h3], fun i z hz => ?_⟩
    cases i with
    | zero => simp at hz; subst hz; exact ⟨y, h1, rfl⟩
    | succ i => exact h4 i z (by simpa using hz)

end Go.Proofs.Ytlbigobmhglppaa.R
