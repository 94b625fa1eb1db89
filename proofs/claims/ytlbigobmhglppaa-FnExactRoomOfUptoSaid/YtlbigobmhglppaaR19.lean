/- Operations with an effect: a variable's new value; a new variable; a store. -/
import Derived.Test.YtlbigobmhglppaaR18
set_option linter.unusedVariables false
set_option linter.unusedSimpArgs false
namespace Go.Proofs.Ytlbigobmhglppaa.R
open Go

theorem all_put {a : Act} {gv : List Value} {d : Nat} {v : Value} (h : d < a.tmps.size) : All (a.put (some d) v) gv = (All a gv).set d v := by
  unfold All Act.put
  simp only [Array.toList_setIfInBounds]
  rw [List.set_append_left _ _ (by simpa using h)]
theorem put_size (a : Act) (d : Option Tmp) (v : Value) : (a.put d v).tmps.size = a.tmps.size := by
  cases d <;> simp [Act.put]
theorem put_defers (a : Act) (d : Option Tmp) (v : Value) : (a.put d v).defers = a.defers := by
  cases d <;> rfl

theorem mapSt_shape (g : Nat → Nat → CV → CV) (e : EpMap) (σ : St) (d : Nat) (sh : Shape) : (∃ l, (mapSt g e 0 σ)[d]? = some (.c sh l)) ↔ ∃ l, σ[d]? = some (.c sh l) := by
  rw [mapSt_get]
  cases σ[d]? with
  | none => simp
  | some x =>
    cases x with
    | c sh' l => simp [SV.mapC]
    | ep a b _ _ _ _ _ _ => simp only [Option.map_some, SV.mapC]; cases e a b <;> simp
    | _ => simp [SV.mapC]

theorem persist_shape {s' o' : Nat} {c c' : CV} {σ σ' : St} (h : persist s' o' c σ = some (σ', c')) (d : Nat) (sh : Shape) : (∃ l, σ'[d]? = some (.c sh l)) ↔ ∃ l, σ[d]? = some (.c sh l) := by
  unfold persist at h
  split at h
  · injection h with h; injection h with h; subst h; exact Iff.rfl
  · injection h with h; injection h with h; subst h; exact Iff.rfl
  · split at h
    · split at h
      · injection h with h; injection h with h; subst h; exact mapSt_shape _ _ _ _ _
      · split at h
        · injection h with h; injection h with h; subst h; exact mapSt_shape _ _ _ _ _
        · injection h with h; injection h with h; subst h; exact mapSt_shape _ _ _ _ _
    · simp at h
  · simp at h

theorem persistAll_shape : ∀ {l : List CV} {s' j : Nat} {σ σ' : St} {l' : List CV}, persistAll s' j l σ = some (σ', l') → ∀ (d : Nat) (sh : Shape), (∃ m, σ'[d]? = some (.c sh m)) ↔ ∃ m, σ[d]? = some (.c sh m)
  | [], s', j, σ, σ', l', h, d, sh => by simp only [persistAll] at h; injection h with h; injection h with h; subst h; exact Iff.rfl
  | c :: l, s', j, σ, σ', l', h, d, sh => by
    simp only [persistAll] at h
    obtain ⟨r, h1, h⟩ := some_bind h
    obtain ⟨q, h2, h⟩ := some_map h
    injection h with h h3; subst h
    exact (persistAll_shape h2 d sh).trans (persist_shape h1 d sh)

/-- What an operation comes to: its value is laid into slot d. -/
structure Eff (X X' : Ctx) (vs : List Value) (σ' : St) (d : Nat) (v : Value) (sv : SV) : Prop where
  goes : Goes X X'
  good : Good X' (vs.set d v) (σ'.set d sv) NoE

/-- A slot that nothing is known of. -/
def Bare (X : Ctx) (σ : St) (d : Nat) : Prop := (∀ p, Free X d p) ∧ (∀ b base tip, X.own b ≠ some (d, 0, base, tip)) ∧ (∀ p, (cellAt σ d p).isOw = false) ∧ (∀ l, σ[d]? ≠ some (.c .box l))

theorem Bare.no {X : Ctx} {σ : St} {d : Nat} (h : Bare X σ d) : ∀ b p base tip, X.own b ≠ some (d, p, base, tip) := fun b p base tip => by
  cases p with
  | zero => exact h.2.1 b base tip
  | succ p => exact h.1 p b base tip

/-- An answer is laid into the slot. -/
theorem eff_pure {X X' : Ctx} {vs : List Value} {σ : St} {d : Nat} {v : Value} {sv : SV} (hg : Good X vs σ NoE) (hb : Bare X σ d) (hd : d < σ.length) (h : PureRes X X' d v sv) : Eff X X' vs σ d v sv := by
  refine ⟨h.goes, good_set hg (fun _ _ e => e.elim) h.mono h.inv hd ?_ hb.2.1 h.rel ?_ ?_⟩
  · intro b t hbt
    exact h.new b t hbt
  · intro b p base tip hbt
    exact (h.tag b p base tip hbt).resolve_left (hb.1 p b base tip)
  · intro b base tip hbt
    exact (h.tagb b base tip hbt).resolve_left (hb.2.1 b base tip)

theorem persist_eff {X : Ctx} {vs : List Value} {σ σ' : St} {d : Nat} {vals : List Value} {cs l' : List CV} (hg : Good X vs σ NoE) (hb : Bare X σ d) (hc : VCells X vals cs) (h : persistAll d 0 cs σ = some (σ', l')) :
    ∃ X', Goes X X' ∧ X'.w = X.w ∧ Good X' vs σ' (fun a _ => a = d) ∧ CellsRel X' d 0 vals l' ∧ (∀ p, (l'.getD p .dead).isOw = false → Free X' d p) ∧ (∀ b base tip, X'.own b ≠ some (d, 0, base, tip)) ∧ (∀ l, σ'[d]? ≠ some (.c .box l)) ∧ σ'.length = σ.length := by
  obtain ⟨X', p⟩ := persistAll_good vs d hg hc.ocells (fun p _ _ => ⟨hb.1 p, hb.2.2.1 p⟩) h
  have hbx : ∀ l, σ'[d]? ≠ some (.c .box l) := fun l e => by
    obtain ⟨m, hm⟩ := (persistAll_shape h d .box).1 ⟨l, e⟩
    exact hb.2.2.2 m hm
  refine ⟨X', p.goes, p.w, p.good.weak ?_, p.cells, ?_, ?_, hbx, p.size⟩
  · rintro a b (h1 | ⟨h1, _⟩)
    · exact h1.elim
    · exact h1
  · intro q hq
    by_cases hlt : q < l'.length
    · have e1 : l'[q]? = some (l'[q]) := List.getElem?_eq_getElem hlt
      have := p.tag q _ e1 (by simpa [List.getD_eq_getElem?_getD, e1] using hq)
      simpa using this
    · exact p.free d q (by have := p.len; omega) (hb.1 q)
  · intro b base tip e
    obtain ⟨l, hl⟩ := p.good.tags.box _ _ _ _ e
    exact hbx l hl

theorem eff_assign {X : Ctx} {vs : List Value} {σ σ' : St} {d : Nat} {v : Value} {sh : Shape} {cs l' : List CV} (hg : Good X vs σ NoE) (hb : Bare X σ d) (hd : d < σ.length) (hx : OSV X v (.c sh cs)) (hsh : sh ≠ .box) (h : persistAll d 0 cs σ = some (σ', l')) :
    ∃ X', X'.w = X.w ∧ Eff X X' vs σ' d v (.c sh l') := by
  obtain ⟨vals, hf, hc⟩ := osv_cells hx hsh
  obtain ⟨X', G, hw, g, hcr, ht, hnb, hbx, hs⟩ := persist_eff hg hb hc h
  refine ⟨X', hw, G, good_set g (fun _ _ e => e) (.refl X') g.inv (by omega) (fun b t h => .inl h) hnb (.c sh v vals l' hf hcr) ?_ ?_⟩
  · intro b p base tip e
    cases hh : (svCell (.c sh l') p).isOw with
    | true => rfl
    | false => exact absurd e (ht p hh b base tip)
  · intro b base tip e
    exact absurd e (hnb b base tip)

/-- A new variable. -/
theorem eff_box {X0 X : Ctx} {w' : World} {vs : List Value} {σ : St} {d : Nat} {vals : List Value} {l : List CV} {elem : TypeId} (hg : Good X vs σ (fun a _ => a = d)) (hG : Goes X0 X) (hd : d < σ.length) (hcr : CellsRel X d 0 vals l)
    (ht : ∀ p, (l.getD p .dead).isOw = false → Free X d p) (hnb : ∀ b base tip, X.own b ≠ some (d, 0, base, tip)) (hp : Pushes X.w w' (.cells vals.toArray elem (0, 0))) :
    Eff X0 (X.made w' (d, 0, 0, 0)) vs σ d (.pointer (some ⟨X.w.heap.size, 0, none⟩)) (.c .box l) := by
  have hm := made_mono (t := (d, 0, 0, 0)) hg.inv hp
  refine ⟨hG.trans (made_goes hp), good_set hg (fun _ _ e => e) hm (made_inv hg.inv hp hnb) hd ?_ hnb ?_ ?_ ?_⟩
  · intro b t h
    exact (made_new h).imp id fun e => by rw [e]
  · exact .box X.w.heap.size 0 0 vals.toArray elem (0, 0) l (by simp [Ctx.made]) hp.new (free0 _) (by simpa using hcr.mono hm)
  · intro b p base tip e
    rcases made_new e with e | e
    · cases hh : (svCell (.c .box l) p).isOw with
      | true => rfl
      | false => exact absurd e (ht p hh b base tip)
    · injection e with _ e; injection e with e _; omega
  · intro b base tip e
    exact ⟨l, rfl⟩

theorem eff_alloc {P : Program} {T : Tys} (hT : TOk P T) {X : Ctx} {vs : List Value} {σ : St} {d : Nat} (hg : Good X vs σ NoE) (hb : Bare X σ d) (hd : d < σ.length) {t : TypeId} {z : List PV} (h : T.zr t = some z) :
    ∃ v X', (Instr.alloc t true (.tuple #[])).run P X.w = .ok v X'.w ∧ Eff X X' vs σ d v (.c .box (z.map (PV.cv false))) := by
  obtain ⟨v, h1, h2, h3⟩ := run_zero (P := P) hT (w := X.w) h
  have hz := zero_cells (X := X) (f := false) h3
  let w' : World := { X.w with heap := X.w.heap.push (.cells v.cells t (0, 0)) }
  have hp : Pushes X.w w' (.cells (z.map PV.val).toArray t (0, 0)) := ⟨by rw [← h2], rfl, rfl, rfl⟩
  have he := eff_box (vals := z.map PV.val) (l := z.map (PV.cv false)) (hg.weak (E' := fun a _ => a = d) fun _ _ e => e.elim) (.refl X) hd hz.cells (fun p _ => hb.1 p) hb.2.1 hp
  refine ⟨_, _, ?_, he⟩
  simp only [Instr.alloc, Sem.run_bind, h1, Result.andThen_ok, newVar, newRow]
  rfl

theorem eff_newbox {P : Program} {X : Ctx} {vs : List Value} {σ σ' : St} {d : Nat} (hg : Good X vs σ NoE) (hb : Bare X σ d) (hd : d < σ.length) {t : TypeId} {v : Value} {x : SV} {cs l' : List CV} (hx : OSV X v x) (hc : cells? x = some cs) (h : persistAll d 0 cs σ = some (σ', l')) :
    ∃ u X', (Instr.box t v).run P X.w = .ok u X'.w ∧ Eff X X' vs σ' d u (.c .box l') := by
  obtain ⟨hv, _⟩ := cells_flat hx hc
  obtain ⟨X1, G, hw, g, hcr, ht, hnb, hbx, hs⟩ := persist_eff hg hb hv h
  let w' : World := { X.w with heap := X.w.heap.push (.cells v.cells t (0, 0)) }
  have hp : Pushes X1.w w' (.cells v.cells.toList.toArray t (0, 0)) := ⟨by rw [hw], by rw [hw], by rw [hw], by rw [hw]⟩
  have he := eff_box g G (by omega) hcr ht hnb hp
  refine ⟨_, _, ?_, he⟩
  simp only [Instr.box, Sem.run_bind, newVar, newRow]
  rw [hw]
  rfl

end Go.Proofs.Ytlbigobmhglppaa.R
