/- The tables tell what the program's types are: how that is asked. -/
import Derived.Test.YtlbigobmhglppaaR35
import Derived.KernelRfl
set_option linter.unusedVariables false
set_option linter.unusedSimpArgs false
namespace Go.Proofs.Ytlbigobmhglppaa.R
open Go

section
variable {P : Program}

theorem info_size {t : TypeId} {n : Nat} (h : (P.info? t).map (·.size) = some n) : ∃ i, P.info? t = some i ∧ i.size = n := some_map h
theorem info_bytes {t : TypeId} {n : Nat} (h : (P.info? t).map (·.bytes) = some n) : ∃ i, P.info? t = some i ∧ i.bytes = n := some_map h

def isStruct? : Option TypeDesc → Bool
  | some (.struct _) => true
  | _ => false
theorem struct_of {t : TypeId} (h : isStruct? (P.underlying t) = true) : ∃ fs, P.underlying t = some (.struct fs) := by
  cases e : P.underlying t with
  | none => rw [e] at h; simp [isStruct?] at h
  | some d =>
    rw [e] at h
    cases d <;> simp [isStruct?] at h
    exact ⟨_, rfl⟩
theorem flat_desc {t : TypeId} (h : (P.underlying t).map isAgB = some false) : ∃ d, P.underlying t = some d ∧ isAgB d = false := some_map h

def zOk : PV → Bool
  | .s _ [] => true
  | .s _ _ => false
  | _ => true
theorem zero_of {t : TypeId} {l : List PV} (h : ((P.info? t).bind (·.zero)).map (·.cells.toList) = some (l.map PV.val)) (hl : l.all zOk = true) : ∃ i v, P.info? t = some i ∧ i.zero = some v ∧ v.cells.toList = l.map PV.val ∧ (∀ p ∈ l, p.scalar = true ∨ ∃ es, p = .s es []) := by
  obtain ⟨v, h1, h2⟩ := some_map h
  obtain ⟨i, h3, h4⟩ := some_bind h1
  refine ⟨i, v, h3, h4, h2, fun p hp => ?_⟩
  have := List.all_eq_true.1 hl p hp
  cases p with
  | s es rows =>
    cases rows with
    | nil => exact .inr ⟨es, rfl⟩
    | cons _ _ => simp [zOk] at this
  | _ => exact .inl rfl

def fieldAt? (P : Program) (t : TypeId) (f : Nat) : Option (Nat × Nat) :=
  match P.underlying t with
  | some (.struct fs) => (fs[f]?).bind fun fl => (P.info? fl.type).map fun i => (fl.offset, i.size)
  | _ => none
theorem fieldAt_of {t : TypeId} {f d n : Nat} (h : fieldAt? P t f = some (d, n)) : ∃ fs fl i, P.underlying t = some (.struct fs) ∧ fs[f]? = some fl ∧ fl.offset = d ∧ P.info? fl.type = some i ∧ i.size = n := by
  unfold fieldAt? at h
  split at h
  · rename_i fs hu
    obtain ⟨fl, h1, h⟩ := some_bind h
    obtain ⟨i, h2, h⟩ := some_map h
    injection h with h3 h4
    exact ⟨fs, fl, i, hu, h1, h3, h2, h4⟩
  · simp at h
theorem off_of {t : TypeId} {f d n : Nat} (h : fieldAt? P t f = some (d, n)) (hn : n ≠ 0) : ∃ fs fl i, P.underlying t = some (.struct fs) ∧ fs[f]? = some fl ∧ fl.offset = d ∧ P.info? fl.type = some i ∧ i.size ≠ 0 := by
  obtain ⟨fs, fl, i, h1, h2, h3, h4, h5⟩ := fieldAt_of h
  exact ⟨fs, fl, i, h1, h2, h3, h4, by rw [h5]; exact hn⟩
theorem size_of {t : TypeId} {f d n : Nat} (h : fieldAt? P t f = some (d, n)) : ∃ fs fl i, P.underlying t = some (.struct fs) ∧ fs[f]? = some fl ∧ P.info? fl.type = some i ∧ i.size = n := by
  obtain ⟨fs, fl, i, h1, h2, h3, h4, h5⟩ := fieldAt_of h
  exact ⟨fs, fl, i, h1, h2, h4, h5⟩

def offAt? (P : Program) (t : TypeId) (f : Nat) : Option Nat :=
  match fieldAt? P t f with
  | some (d, n) => if n = 0 then none else some d
  | none => none
def sizeAt? (P : Program) (t : TypeId) (f : Nat) : Option Nat := (fieldAt? P t f).map (·.2)
theorem offAt_of {t : TypeId} {f d : Nat} (h : offAt? P t f = some d) : ∃ fs fl i, P.underlying t = some (.struct fs) ∧ fs[f]? = some fl ∧ fl.offset = d ∧ P.info? fl.type = some i ∧ i.size ≠ 0 := by
  unfold offAt? at h
  split at h
  · rename_i d' n e
    split at h
    · simp at h
    · rename_i hn
      injection h with h; subst h
      exact off_of e hn
  · simp at h
theorem sizeAt_of {t : TypeId} {f n : Nat} (h : sizeAt? P t f = some n) : ∃ fs fl i, P.underlying t = some (.struct fs) ∧ fs[f]? = some fl ∧ P.info? fl.type = some i ∧ i.size = n := by
  obtain ⟨⟨d, m⟩, h1, h2⟩ := some_map h
  subst h2
  exact size_of h1

/-- Where a struct's fields lie, and how many cells each has. -/
def fieldsL (P : Program) (t : TypeId) : List (Nat × Nat) :=
  match P.underlying t with
  | some (.struct fs) => fs.toList.map fun fl => (fl.offset, ((P.info? fl.type).map (·.size)).getD 0)
  | _ => []
theorem fieldsL_of {t : TypeId} {l : List (Nat × Nat)} (h : l = [] ∨ fieldsL P t = l) {f d n : Nat} (hf : l[f]? = some (d, n)) (hn : n ≠ 0) : ∃ fs fl i, P.underlying t = some (.struct fs) ∧ fs[f]? = some fl ∧ fl.offset = d ∧ P.info? fl.type = some i ∧ i.size = n := by
  rcases h with h | h
  · subst h; simp at hf
  · unfold fieldsL at h
    split at h
    · rename_i fs hu
      rw [← h, List.getElem?_map] at hf
      obtain ⟨fl, h1, h2⟩ := some_map hf
      injection h2 with h3 h4
      cases hi : P.info? fl.type with
      | none => rw [hi] at h4; simp at h4; exact absurd h4.symm hn
      | some i => rw [hi] at h4; simp at h4; exact ⟨fs, fl, i, hu, by simpa using h1, h3, hi, h4⟩
    · rw [← h] at hf; simp at hf

def infos? (P : Program) (t : TypeId) : Bool :=
  match P.underlying t with
  | some (.struct fs) => fs.toList.all fun fl => (P.info? fl.type).isSome
  | _ => true
theorem infos_of {t : TypeId} (h : infos? P t = true) {fs : Array Field} (hu : P.underlying t = some (.struct fs)) : ∀ fl ∈ fs, ∃ i, P.info? fl.type = some i := fun fl hf => by
  unfold infos? at h
  rw [hu] at h
  simp only [List.all_eq_true] at h
  exact Option.isSome_iff_exists.1 (h fl (by simpa using hf))

theorem func_of {f : FuncId} {fn : Func} (h : P.funcs[f]? = some fn) (hn : (fn.name == "runtime.NumGoroutine") = false) : P.funcs[f]? = some fn ∧ (fn.name == "runtime.NumGoroutine") = false := ⟨h, hn⟩

end
end Go.Proofs.Ytlbigobmhglppaa.R
