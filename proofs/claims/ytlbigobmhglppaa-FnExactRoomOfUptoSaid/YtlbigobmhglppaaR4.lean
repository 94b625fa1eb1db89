/- What the evaluator holds of memory stays true where memory turns elsewhere, and where a slice changes hands. -/
import Derived.Test.YtlbigobmhglppaaR3
set_option linter.unusedVariables false
set_option linter.unusedSimpArgs false
namespace Go.Proofs.Ytlbigobmhglppaa.R
open Go

/-- Nothing that X speaks of has turned. -/
structure Mono (X X' : Ctx) : Prop where
  V : ∀ f b, X.V f b → X'.V f b ∧ X'.w.heap[b]? = X.w.heap[b]?
  own : ∀ b t, X.own b = some t → X'.own b = some t ∧ X'.w.heap[b]? = X.w.heap[b]?

theorem Mono.refl (X : Ctx) : Mono X X := ⟨fun _ _ h => ⟨h, rfl⟩, fun _ _ h => ⟨h, rfl⟩⟩
theorem Mono.trans {X Y Z : Ctx} (a : Mono X Y) (b : Mono Y Z) : Mono X Z :=
  ⟨fun f k h => ⟨(b.V f k (a.V f k h).1).1, (b.V f k (a.V f k h).1).2.trans (a.V f k h).2⟩,
   fun k t h => ⟨(b.own k t (a.own k t h).1).1, (b.own k t (a.own k t h).1).2.trans (a.own k t h).2⟩⟩

theorem OwRel.mono {X X' : Ctx} (H : Mono X X') {k j : Nat} {v : Value} {f : Bool} {es : Nat} {rows : List (List PV)} {blk off cap : Nat} {c : Array Value} {elem : TypeId} {fr : Nat × Nat}
    (h : OwRel X k j v f es rows blk off cap c elem fr) : OwRel X' k j v f es rows blk off cap c elem fr :=
  ⟨h.val, h.le, (H.own _ _ h.own).1, (H.own _ _ h.own).2.trans h.cells, h.fits, h.loose, h.reads.mono (H.V f)⟩
theorem BrRel.mono {X X' : Ctx} (H : Mono X X') {s o kd lo : Nat} {v : Value} {f : Bool} {es : Nat} {rows : List (List PV)} {blk base tip cap : Nat} {c : Array Value} {elem : TypeId} {fr : Nat × Nat}
    (h : BrRel X s o kd lo v f es rows blk base tip cap c elem fr) : BrRel X' s o kd lo v f es rows blk base tip cap c elem fr :=
  ⟨h.val, h.le, (H.own _ _ h.own).1, (H.own _ _ h.own).2.trans h.cells, h.fits, h.loose, h.tipLe, h.tip1, h.lo0, h.reads.mono (H.V f)⟩

theorem CVRel.mono {X X' : Ctx} (H : Mono X X') {k j : Nat} {v : Value} {c : CV} (h : CVRel X k j v c) : CVRel X' k j v c := by
  cases h with
  | sh f p v h => exact .sh f p v (h.mono (H.V f))
  | ow0 f es a => exact .ow0 f es a
  | ow f es rows v blk off cap c elem fr h => exact .ow f es rows v blk off cap c elem fr (h.mono H)
  | br0 s o kd lo f es a => exact .br0 s o kd lo f es a
  | br s o kd lo f es rows v blk base tip cap c elem fr h => exact .br s o kd lo f es rows v blk base tip cap c elem fr (h.mono H)
  | brv s o lo f es rows v h => exact .brv s o lo f es rows v (h.mono (H.V f))
  | dead v => exact .dead v

theorem CellsRel.mono {X X' : Ctx} (H : Mono X X') {k : Nat} : ∀ {j : Nat} {vs : List Value} {l : List CV}, CellsRel X k j vs l → CellsRel X' k j vs l
  | _, _, _, .nil j => .nil j
  | _, _, _, .cons j v cv vs l h t => .cons j v cv vs l (h.mono H) (CellsRel.mono H t)

theorem SVRel.mono {X X' : Ctx} (H : Mono X X') {k : Nat} {v : Value} {sv : SV} (h : SVRel X k v sv) : SVRel X' k v sv := by
  cases h with
  | undef v => exact .undef v
  | c sh v vs l hf hc => exact .c sh v vs l hf (hc.mono H)
  | box blk base tip c elem fr l ho hb hfr hc => exact .box blk base tip c elem fr l (H.own _ _ ho).1 ((H.own _ _ ho).2.trans hb) hfr (hc.mono H)
  | bp s o blk base tip ho => exact .bp s o blk base tip (H.own _ _ ho).1
  | ep s o kd fl es i f row blk off base tip c elem fr ho he hl hb hfr hr => exact .ep s o kd fl es i f row blk off base tip c elem fr (H.own _ _ ho).1 he hl ((H.own _ _ ho).2.trans hb) hfr (hr.mono (H.V fl))
  | epv s o fl es i f row blk off c elem fr hv hb hr => exact .epv s o fl es i f row blk off c elem fr (H.V _ _ hv).1 ((H.V _ _ hv).2.trans hb) (hr.mono (H.V fl))
  | sp fl row f blk off c elem fr hv hb hr => exact .sp fl row f blk off c elem fr (H.V _ _ hv).1 ((H.V _ _ hv).2.trans hb) (hr.mono (H.V fl))
  | fn g caps cs hs hc => exact .fn g caps cs hs fun i v s h1 h2 => let ⟨blk, base, tip, e, ho⟩ := hc i v s h1 h2; ⟨blk, base, tip, e, (H.own _ _ ho).1⟩

theorem Frame.mono {X X' : Ctx} (H : Mono X X') {vs : List Value} {σ : St} (h : Frame X vs σ) : Frame X' vs σ :=
  ⟨h.1, fun k v sv hv hs => (h.2 k v sv hv hs).mono H⟩

theorem Goes.mono {X X' : Ctx} (g : Goes X X') (hi : Inv X) (ho : ∀ b t, X.own b = some t → X'.own b = some t ∧ X'.w.heap[b]? = X.w.heap[b]?) : Mono X X' where
  V := fun f b h => by
    have hn : X.own b = none := by
      cases e : X.own b with
      | none => rfl
      | some t => rcases h with h | ⟨_, h⟩
                  · exact absurd h (hi.own b t e).2.1
                  · exact absurd h (hi.own b t e).2.2
    have hlt : b < X.w.heap.size := by
      rcases h with h | ⟨_, h⟩
      · exact hi.vs b h
      · exact hi.va b h
    refine ⟨?_, g.keep b hlt hn⟩
    rcases h with h | ⟨e, h⟩
    · exact .inl (g.vs b h)
    · exact .inr ⟨e, by rw [g.va]; exact h⟩
  own := ho

/-- Cells through a map: what each cell's fact turns into. -/
theorem CellsRel.map {X X' : Ctx} {k : Nat} {g : Nat → CV → CV} (H : ∀ j v c, CVRel X k j v c → CVRel X' k j v (g j c)) :
    ∀ {j : Nat} {vs : List Value} {l : List CV}, CellsRel X k j vs l → CellsRel X' k j vs (mapAll g j l)
  | _, _, _, .nil j => .nil j
  | _, _, _, .cons j v cv vs l h t => .cons j v _ vs _ (H j v cv h) (CellsRel.map H t)

/-- A map of all slots, with what it asks. -/
structure Maps (X X' : Ctx) (g : Nat → Nat → CV → CV) (e : EpMap) : Prop where
  cv : ∀ k j v c, CVRel X k j v c → CVRel X' k j v (g k j c)
  ep : ∀ k v s o kd fl es i f row, SVRel X k v (.ep s o kd fl es i f row) → ∀ s' o', e s o = some (s', o') → SVRel X' k v (.ep s' o' kd fl es i f row)
  V : ∀ f b, X.V f b → X'.V f b ∧ X'.w.heap[b]? = X.w.heap[b]?
  box : ∀ b s base tip, X.own b = some (s, 0, base, tip) → X'.own b = some (s, 0, base, tip) ∧ X'.w.heap[b]? = X.w.heap[b]?

theorem SVRel.map {X X' : Ctx} {g : Nat → Nat → CV → CV} {e : EpMap} (H : Maps X X' g e) {k : Nat} {v : Value} {sv : SV} (h : SVRel X k v sv) : SVRel X' k v (sv.mapC (g k) e) := by
  cases h with
  | undef v => exact .undef v
  | c sh v vs l hf hc => exact .c sh v vs _ hf (hc.map (H.cv k))
  | box blk base tip c elem fr l ho hb hfr hc => exact .box blk base tip c elem fr _ (H.box _ _ _ _ ho).1 ((H.box _ _ _ _ ho).2.trans hb) hfr (hc.map (H.cv k))
  | bp s o blk base tip ho => exact .bp s o blk base tip (H.box _ _ _ _ ho).1
  | ep s o kd fl es i f row blk off base tip c elem fr ho he hl hb hfr hr =>
    simp only [SV.mapC]
    split
    · rename_i s' o' he'; exact H.ep k _ s o kd fl es i f row (.ep s o kd fl es i f row blk off base tip c elem fr ho he hl hb hfr hr) _ _ he'
    · exact .undef _
  | epv s o fl es i f row blk off c elem fr hv hb hr =>
    simp only [SV.mapC]
    split
    · rename_i s' o' he'; exact H.ep k _ s o 2 fl es i f row (.epv s o fl es i f row blk off c elem fr hv hb hr) _ _ he'
    · exact .undef _
  | sp fl row f blk off c elem fr hv hb hr => exact .sp fl row f blk off c elem fr (H.V _ _ hv).1 ((H.V _ _ hv).2.trans hb) (hr.mono (H.V fl))
  | fn g caps cs hs hc => exact .fn g caps cs hs fun i v s h1 h2 => let ⟨blk, base, tip, e, ho⟩ := hc i v s h1 h2; ⟨blk, base, tip, e, (H.box _ _ _ _ ho).1⟩

theorem mapSt_length (g : Nat → Nat → CV → CV) (e : EpMap) : ∀ (k : Nat) (σ : St), (mapSt g e k σ).length = σ.length
  | _, [] => rfl
  | k, x :: l => by simp [mapSt, mapSt_length g e (k + 1) l]
theorem mapSt_get (g : Nat → Nat → CV → CV) (e : EpMap) : ∀ (k : Nat) (σ : St) (i : Nat), (mapSt g e k σ)[i]? = (σ[i]?).map fun x => x.mapC (g (k + i)) e
  | _, [], i => by simp [mapSt]
  | k, x :: l, 0 => by simp [mapSt]
  | k, x :: l, i + 1 => by
    simp only [mapSt, List.getElem?_cons_succ, mapSt_get g e (k + 1) l i]
    congr 2
    funext y
    rw [show k + 1 + i = k + (i + 1) from by omega]

theorem Frame.map {X X' : Ctx} {g : Nat → Nat → CV → CV} {e : EpMap} (H : Maps X X' g e) {vs : List Value} {σ : St} (h : Frame X vs σ) : Frame X' vs (mapSt g e 0 σ) := by
  refine ⟨by rw [mapSt_length]; exact h.1, fun k v sv hv hs => ?_⟩
  rw [mapSt_get] at hs
  cases e1 : σ[k]? with
  | none => simp [e1] at hs
  | some x =>
    simp [e1] at hs
    subst hs
    exact (h.2 k v x hv e1).map H

theorem mapAll_length (g : Nat → CV → CV) : ∀ (j : Nat) (l : List CV), (mapAll g j l).length = l.length
  | _, [] => rfl
  | j, c :: l => by simp [mapAll, mapAll_length g (j + 1) l]
theorem mapAll_get (g : Nat → CV → CV) : ∀ (j : Nat) (l : List CV) (i : Nat), (mapAll g j l)[i]? = (l[i]?).map (g (j + i))
  | _, [], i => by simp [mapAll]
  | j, c :: l, 0 => by simp [mapAll]
  | j, c :: l, i + 1 => by
    simp only [mapAll, List.getElem?_cons_succ, mapAll_get g (j + 1) l i]
    rw [show j + 1 + i = j + (i + 1) from by omega]

/-- Each owned block has its cell; each variable's block its slot. -/
structure Tags (X : Ctx) (σ : St) : Prop where
  cell : ∀ b s p base tip, X.own b = some (s, p + 1, base, tip) → (cellAt σ s p).isOw = true
  box : ∀ b s base tip, X.own b = some (s, 0, base, tip) → ∃ l, σ[s]? = some (.c .box l)

end Go.Proofs.Ytlbigobmhglppaa.R
