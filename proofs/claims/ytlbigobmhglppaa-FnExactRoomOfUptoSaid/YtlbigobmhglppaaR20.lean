/- Stores: what the machine writes; into a variable. -/
import Derived.Test.YtlbigobmhglppaaR19
set_option linter.unusedVariables false
set_option linter.unusedSimpArgs false
namespace Go.Proofs.Ytlbigobmhglppaa.R
open Go

/-- w' is w but for block b, which has c' now. -/
structure Wrote (w w' : World) (b : Nat) (c' : Array Value) (elem : TypeId) (fr : Nat × Nat) : Prop where
  at_ : w'.heap[b]? = some (.cells c' elem fr)
  else_ : ∀ k, k ≠ b → w'.heap[k]? = w.heap[k]?
  size : w'.heap.size = w.heap.size
  os : w'.os = w.os
  tape : w'.tape = w.tape
  output : w'.output = w.output

theorem wrote_cell {w : World} {b o : Nat} {c : Array Value} {elem : TypeId} {fr : Nat × Nat} (h : w.heap[b]? = some (.cells c elem fr)) (v : Value) : Wrote w (w.setCell ⟨b, o, none⟩ v) b (c.setIfInBounds o v) elem fr where
  at_ := by
    have hlt : b < w.heap.size := (Array.getElem?_eq_some_iff.1 h).1
    have hv : w.heap[b] = .cells c elem fr := (Array.getElem?_eq_some_iff.1 h).2
    unfold World.setCell
    rw [Array.getElem?_eq_getElem (by simpa using hlt), Array.getElem_modify]
    simp [hv]
  else_ := fun k hk => by
    unfold World.setCell
    simp only [Array.getElem?_modify]
    rw [if_neg (Ne.symm hk)]
  size := by simp [World.setCell]
  os := rfl
  tape := rfl
  output := rfl

theorem Wrote.trans {w w' w'' : World} {b : Nat} {c c' : Array Value} {elem elem' : TypeId} {fr fr' : Nat × Nat} (h : Wrote w w' b c elem fr) (h' : Wrote w' w'' b c' elem' fr') : Wrote w w'' b c' elem' fr' :=
  ⟨h'.at_, fun k hk => (h'.else_ k hk).trans (h.else_ k hk), h'.size.trans h.size, h'.os.trans h.os, h'.tape.trans h.tape, h'.output.trans h.output⟩

theorem wrote_cells (b : Nat) {elem : TypeId} {fr : Nat × Nat} : ∀ (vs : List Value) (o : Nat) {w : World} {c : Array Value}, w.heap[b]? = some (.cells c elem fr) → o + vs.length ≤ c.size →
    ∃ c', Wrote w (w.setCells b o vs) b c' elem fr ∧ c'.toList = c.toList.take o ++ vs ++ c.toList.drop (o + vs.length)
  | [], o, w, c, h, hl => ⟨c, ⟨h, fun _ _ => rfl, rfl, rfl, rfl, rfl⟩, by simp⟩
  | v :: vs, o, w, c, h, hl => by
    have h1 := wrote_cell (o := o) h v
    simp at hl
    obtain ⟨c', h2, h3⟩ := wrote_cells b vs (o + 1) h1.at_ (by simp; omega)
    refine ⟨c', h1.trans h2, ?_⟩
    rw [h3]
    simp only [Array.toList_setIfInBounds, List.length_cons]
    rw [take_set1 v c.toList o (by simp; omega), drop_set1 v c.toList o _ (by omega)]
    simp
    congr 1; omega

theorem run_write {P : Program} {w : World} {b o : Nat} {c : Array Value} {elem : TypeId} {fr : Nat × Nat} (h : w.heap[b]? = some (.cells c elem fr)) (hfr : free fr c.size) {vs : List Value} (hl : o + vs.length ≤ c.size) (h1 : ∀ v ∈ vs, v.oneCell' = true) :
    ∃ w' c', (storeCells ⟨b, o, none⟩ vs).run P w = .ok () w' ∧ Wrote w w' b c' elem fr ∧ c'.toList = c.toList.take o ++ vs ++ c.toList.drop (o + vs.length) := by
  obtain ⟨c', h2, h3⟩ := wrote_cells b vs o h hl
  refine ⟨_, c', run_storeCells_cells b o vs 0 w ?_ ?_ h1, h2, h3⟩
  · intro j hj
    rw [cell_none h]
    rw [Array.getElem?_eq_getElem (by omega)]
    rfl
  · intro j hj
    have := hfr (o + 0 + j) (by omega)
    simp only [World.frozen?, h]
    simpa using this

/-- One block of the owned ones has turned. -/
def Ctx.turned (X : Ctx) (w' : World) : Ctx := { X with w := w' }

theorem turned_goes {X : Ctx} {w' : World} {b : Nat} {c : Array Value} {elem : TypeId} {fr : Nat × Nat} (h : Wrote X.w w' b c elem fr) {t : Own} (ho : X.own b = some t) : Goes X (X.turned w') where
  os := h.os
  tape := h.tape
  output := h.output
  size := by show X.w.heap.size ≤ w'.heap.size; rw [h.size]; exact Nat.le_refl _
  keep := fun k hk hn => h.else_ k (fun e => by subst e; rw [ho] at hn; simp at hn)
  va := rfl
  vs := fun _ h => h
  vs' := fun _ h => .inl h
  own' := fun _ h => .inl h

theorem turned_inv {X : Ctx} (hi : Inv X) {w' : World} (hs : w'.heap.size = X.w.heap.size) : Inv (X.turned w') where
  own := fun b t h => ⟨by show b < w'.heap.size; rw [hs]; exact (hi.own b t h).1, (hi.own b t h).2⟩
  one := hi.one
  vs := fun b h => by show b < w'.heap.size; rw [hs]; exact hi.vs b h
  va := fun b h => by show b < w'.heap.size; rw [hs]; exact hi.va b h

theorem turned_V {X : Ctx} (hi : Inv X) {w' : World} {b : Nat} {c : Array Value} {elem : TypeId} {fr : Nat × Nat} (h : Wrote X.w w' b c elem fr) {t : Own} (ho : X.own b = some t) (f : Bool) (k : Nat) (hk : X.V f k) : (X.turned w').V f k ∧ (X.turned w').w.heap[k]? = X.w.heap[k]? :=
  ⟨hk, h.else_ k (fun e => by subst e; rw [(V_own_none hi hk).1] at ho; simp at ho)⟩

/-- Behind a store into a variable all cells read as before, but for its own. -/
theorem turned_cell {X : Ctx} (hi : Inv X) {w' : World} {b s base0 tip0 : Nat} {c : Array Value} {elem : TypeId} {fr : Nat × Nat} (h : Wrote X.w w' b c elem fr) (ho : X.own b = some (s, 0, base0, tip0)) {k j : Nat} {v : Value} {cv : CV} (hc : CVRel X k j v cv) : CVRel (X.turned w') k j v cv := by
  have hV := fun f k => turned_V hi h ho f k
  have hb : ∀ blk s' p base tip, X.own blk = some (s', p + 1, base, tip) → w'.heap[blk]? = X.w.heap[blk]? := fun blk s' p base tip e => h.else_ blk (fun e1 => by subst e1; rw [ho] at e; injection e with e; injection e with _ e; injection e with e _; omega)
  cases hc with
  | sh f p v h => exact .sh f p v (h.mono (hV f))
  | ow0 f es a => exact .ow0 f es a
  | ow f es rows v blk off cap c elem fr h => exact .ow f es rows v blk off cap c elem fr ⟨h.val, h.le, h.own, (hb _ _ _ _ _ h.own).trans h.cells, h.fits, h.loose, h.reads.mono (hV f)⟩
  | br0 s o kd lo f es a => exact .br0 s o kd lo f es a
  | br s o kd lo f es rows v blk base tip cap c elem fr h => exact .br s o kd lo f es rows v blk base tip cap c elem fr ⟨h.val, h.le, h.own, (hb _ _ _ _ _ h.own).trans h.cells, h.fits, h.loose, h.tipLe, h.tip1, h.lo0, h.reads.mono (hV f)⟩
  | brv s o lo f es rows v h => exact .brv s o lo f es rows v (h.mono (hV f))
  | dead v => exact .dead v
theorem turned_cells {X : Ctx} (hi : Inv X) {w' : World} {b s base0 tip0 : Nat} {c : Array Value} {elem : TypeId} {fr : Nat × Nat} (h : Wrote X.w w' b c elem fr) (ho : X.own b = some (s, 0, base0, tip0)) {k : Nat} : ∀ {j : Nat} {vs : List Value} {l : List CV}, CellsRel X k j vs l → CellsRel (X.turned w') k j vs l
  | _, _, _, .nil j => .nil j
  | _, _, _, .cons j v cv vs l hc t => .cons j v cv vs l (turned_cell hi h ho hc) (turned_cells hi h ho t)

theorem turned_sv {X : Ctx} (hi : Inv X) {w' : World} {b s base0 tip0 : Nat} {c : Array Value} {elem : TypeId} {fr : Nat × Nat} (h : Wrote X.w w' b c elem fr) (ho : X.own b = some (s, 0, base0, tip0)) {k : Nat} (hk : k ≠ s) {v : Value} {sv : SV} (hs : SVRel X k v sv) : SVRel (X.turned w') k v sv := by
  have hV := fun f k => turned_V hi h ho f k
  have hb : ∀ blk s' p base tip, X.own blk = some (s', p + 1, base, tip) → w'.heap[blk]? = X.w.heap[blk]? := fun blk s' p base tip e => h.else_ blk (fun e1 => by subst e1; rw [ho] at e; injection e with e; injection e with _ e; injection e with e _; omega)
  cases hs with
  | undef v => exact .undef v
  | c sh v vs l hf hc => exact .c sh v vs l hf (turned_cells hi h ho hc)
  | box blk base tip c elem fr l ho' hbk hfr hc =>
    refine .box blk base tip c elem fr l ho' ((h.else_ blk fun e => ?_).trans hbk) hfr (turned_cells hi h ho hc)
    subst e
    rw [ho] at ho'; injection ho' with e; injection e with e _
    exact hk e.symm
  | bp s o blk base tip ho' => exact .bp s o blk base tip ho'
  | ep s o kd fl es i f row blk off base tip c elem fr ho' he hl hbk hfr hr => exact .ep s o kd fl es i f row blk off base tip c elem fr ho' he hl ((hb _ _ _ _ _ ho').trans hbk) hfr (hr.mono (hV fl))
  | epv s o fl es i f row blk off c elem fr hv hbk hr => exact .epv s o fl es i f row blk off c elem fr (hV _ _ hv).1 ((hV _ _ hv).2.trans hbk) (hr.mono (hV fl))
  | sp fl row f blk off c elem fr hv hbk hr => exact .sp fl row f blk off c elem fr (hV _ _ hv).1 ((hV _ _ hv).2.trans hbk) (hr.mono (hV fl))
  | fn g caps cs hs hc => exact .fn g caps cs hs hc

theorem CellsRel.length {X : Ctx} {k : Nat} : ∀ {j : Nat} {vs : List Value} {l : List CV}, CellsRel X k j vs l → vs.length = l.length
  | _, _, _, .nil j => rfl
  | _, _, _, .cons j v cv vs l h t => by simp [CellsRel.length t]
theorem CellsRel.take {X : Ctx} {k : Nat} : ∀ {j : Nat} {vs : List Value} {l : List CV} (n : Nat), CellsRel X k j vs l → CellsRel X k j (vs.take n) (l.take n)
  | j, _, _, 0, h => by simpa using CellsRel.nil j
  | _, _, _, n + 1, .nil j => by simpa using CellsRel.nil j
  | _, _, _, n + 1, .cons j v cv vs l h t => by simpa using CellsRel.cons j v cv _ _ h (CellsRel.take n t)
theorem CellsRel.drop {X : Ctx} {k : Nat} : ∀ {j : Nat} {vs : List Value} {l : List CV} (n : Nat), CellsRel X k j vs l → CellsRel X k (j + n) (vs.drop n) (l.drop n)
  | j, _, _, 0, h => by simpa using h
  | _, _, _, n + 1, .nil j => by simpa using CellsRel.nil (j + (n + 1))
  | _, _, _, n + 1, .cons j v cv vs l h t => by
    have := CellsRel.drop n t
    rw [show j + 1 + n = j + (n + 1) from by omega] at this
    simpa using this
theorem CellsRel.append {X : Ctx} {k : Nat} : ∀ {j : Nat} {vs vs' : List Value} {l l' : List CV}, CellsRel X k j vs l → CellsRel X k (j + l.length) vs' l' → CellsRel X k j (vs ++ vs') (l ++ l')
  | _, _, _, _, _, .nil j, h => by simpa using h
  | _, _, _, _, _, .cons j v cv vs l h t, h' => .cons j v cv _ _ h (CellsRel.append t (by simpa [Nat.add_assoc, Nat.add_comm 1] using h'))

theorem cells_one {σ : St} {s' j : Nat} {l l' : List CV} {σ' : St} (h : persistAll s' j l σ = some (σ', l')) : ∀ c ∈ l', c ≠ .dead ∧ noBr c = true := by
  induction l generalizing σ σ' j l' with
  | nil => simp only [persistAll] at h; injection h with h; injection h with _ h; subst h; intro c hc; simp at hc
  | cons c l ih =>
    simp only [persistAll] at h
    obtain ⟨r, h1, h⟩ := some_bind h
    obtain ⟨q, h2, h⟩ := some_map h
    injection h with _ h; subst h
    intro c' hc'
    rcases List.mem_cons.1 hc' with e | e
    · subst e
      unfold persist at h1
      split at h1
      · injection h1 with h1; subst h1; exact ⟨by simp, rfl⟩
      · injection h1 with h1; subst h1; exact ⟨by simp, rfl⟩
      · split at h1
        · split at h1
          · injection h1 with h1; subst h1; exact ⟨by simp, rfl⟩
          · split at h1
            · injection h1 with h1; subst h1; exact ⟨by simp, rfl⟩
            · injection h1 with h1; subst h1; exact ⟨by simp, rfl⟩
        · simp at h1
      · simp at h1
    · exact ih h2 c' e

theorem cv_oneCell {X : Ctx} {k j : Nat} {v : Value} {c : CV} (h : CVRel X k j v c) (hd : c ≠ .dead) : v.oneCell' = true := by
  cases h with
  | sh f p v h => exact rd_one h
  | ow0 f es a => rfl
  | ow f es rows v blk off cap c elem fr h => rw [h.val]; rfl
  | br0 s o kd lo f es a => rfl
  | br s o kd lo f es rows v blk base tip cap c elem fr h => rw [h.val]; rfl
  | brv s o lo f es rows v h => exact rd_one h
  | dead v => exact absurd rfl hd
theorem cells_oneCell {X : Ctx} {k : Nat} : ∀ {j : Nat} {vs : List Value} {l : List CV}, CellsRel X k j vs l → (∀ c ∈ l, c ≠ .dead) → ∀ v ∈ vs, v.oneCell' = true
  | _, _, _, .nil j, hd => fun v hv => by simp at hv
  | _, _, _, .cons j v cv vs l h t, hd => fun u hu => by
    rcases List.mem_cons.1 hu with e | e
    · subst e; exact cv_oneCell h (hd cv (by simp))
    · exact cells_oneCell t (fun c hc => hd c (by simp [hc])) u e

end Go.Proofs.Ytlbigobmhglppaa.R
