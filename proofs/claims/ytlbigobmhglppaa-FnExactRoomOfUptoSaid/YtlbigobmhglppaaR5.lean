/- A slice changes hands: what the evaluator holds of memory behind 'demote', 'move', 'off' and 'turn'. -/
import Derived.Test.YtlbigobmhglppaaR4
set_option linter.unusedVariables false
set_option linter.unusedSimpArgs false
namespace Go.Proofs.Ytlbigobmhglppaa.R
open Go

/-- X' is X but for what belongs to cell (s, o). -/
structure Near (s o : Nat) (X X' : Ctx) : Prop where
  V : ∀ f b, X.V f b → X'.V f b ∧ X'.w.heap[b]? = X.w.heap[b]?
  own : ∀ b s' p base tip, X.own b = some (s', p, base, tip) → ¬(s' = s ∧ p = o + 1) → X'.own b = some (s', p, base, tip) ∧ X'.w.heap[b]? = X.w.heap[b]?

theorem Near.ow {s o : Nat} {X X' : Ctx} (H : Near s o X X') {k j : Nat} (hne : ¬(k = s ∧ j = o)) {v : Value} {f : Bool} {es : Nat} {rows : List (List PV)} {blk off cap : Nat} {c : Array Value} {elem : TypeId} {fr : Nat × Nat}
    (h : OwRel X k j v f es rows blk off cap c elem fr) : OwRel X' k j v f es rows blk off cap c elem fr := by
  have hh := H.own _ _ _ _ _ h.own (by omega)
  exact ⟨h.val, h.le, hh.1, hh.2.trans h.cells, h.fits, h.loose, h.reads.mono (H.V f)⟩

theorem Near.br {s o : Nat} {X X' : Ctx} (H : Near s o X X') {a b kd lo : Nat} (hne : ¬(a = s ∧ b = o)) {v : Value} {f : Bool} {es : Nat} {rows : List (List PV)} {blk base tip cap : Nat} {c : Array Value} {elem : TypeId} {fr : Nat × Nat}
    (h : BrRel X a b kd lo v f es rows blk base tip cap c elem fr) : BrRel X' a b kd lo v f es rows blk base tip cap c elem fr := by
  have hh := H.own _ _ _ _ _ h.own (by omega)
  exact ⟨h.val, h.le, hh.1, hh.2.trans h.cells, h.fits, h.loose, h.tipLe, h.tip1, h.lo0, h.reads.mono (H.V f)⟩

theorem Near.sh {s o : Nat} {X X' : Ctx} (H : Near s o X X') {f : Bool} {v : Value} {p : PV} (h : Rd X.w.heap (X.V f) v p) : Rd X'.w.heap (X'.V f) v p := h.mono (H.V f)

theorem Near.ep {s o : Nat} {X X' : Ctx} (H : Near s o X X') {k a b kd : Nat} {fl : Bool} {es i f : Nat} {row : List PV} {v : Value} (hne : ¬(a = s ∧ b = o))
    (h : SVRel X k v (.ep a b kd fl es i f row)) : SVRel X' k v (.ep a b kd fl es i f row) := by
  cases h with
  | ep _ _ _ _ _ _ _ _ blk off base tip c elem fr ho he hl hb hfr hr =>
    have hh := H.own _ _ _ _ _ ho (by omega)
    exact .ep a b kd fl es i f row blk off base tip c elem fr hh.1 he hl (hh.2.trans hb) hfr (hr.mono (H.V fl))
  | epv _ _ _ _ _ _ _ blk off c elem fr hv hb hr => exact .epv a b fl es i f row blk off c elem fr (H.V _ _ hv).1 ((H.V _ _ hv).2.trans hb) (hr.mono (H.V fl))

theorem Near.maps {s o : Nat} {X X' : Ctx} (H : Near s o X X') {g : Nat → Nat → CV → CV} {e : EpMap}
    (hg : ∀ k j c, (∀ f es rows, c = .ow f es rows → ¬(k = s ∧ j = o)) → (∀ a b kd lo f es rows, c = .br a b kd lo f es rows → ¬(a = s ∧ b = o)) → g k j c = c)
    (he : ∀ a b, ¬(a = s ∧ b = o) → e a b = some (a, b))
    (h1 : ∀ v f es rows, CVRel X s o v (.ow f es rows) → CVRel X' s o v (g s o (.ow f es rows)))
    (h2 : ∀ k j v kd lo f es rows, CVRel X k j v (.br s o kd lo f es rows) → CVRel X' k j v (g k j (.br s o kd lo f es rows)))
    (h3 : ∀ k v kd fl es i f row, SVRel X k v (.ep s o kd fl es i f row) → ∀ s' o', e s o = some (s', o') → SVRel X' k v (.ep s' o' kd fl es i f row)) : Maps X X' g e where
  cv := fun k j v c h => by
    cases h with
    | sh f p v h => rw [hg _ _ _ (by intros; contradiction) (by intros; contradiction)]; exact .sh f p v (H.sh h)
    | ow0 f es a =>
      by_cases hk : k = s ∧ j = o
      · obtain ⟨rfl, rfl⟩ := hk; exact h1 _ _ _ _ (.ow0 f es a)
      · rw [hg _ _ _ (fun _ _ _ _ => hk) (by intros; contradiction)]; exact .ow0 f es a
    | ow f es rows v blk off cap c elem fr h =>
      by_cases hk : k = s ∧ j = o
      · obtain ⟨rfl, rfl⟩ := hk; exact h1 _ _ _ _ (.ow f es rows v blk off cap c elem fr h)
      · rw [hg _ _ _ (fun _ _ _ _ => hk) (by intros; contradiction)]; exact .ow f es rows v blk off cap c elem fr (H.ow hk h)
    | br0 a b kd lo f es ad =>
      by_cases hk : a = s ∧ b = o
      · obtain ⟨rfl, rfl⟩ := hk; exact h2 _ _ _ _ _ _ _ _ (.br0 a b kd lo f es ad)
      · rw [hg _ _ _ (by intros; contradiction) (fun _ _ _ _ _ _ _ e => by cases e; exact hk)]; exact .br0 a b kd lo f es ad
    | br a b kd lo f es rows v blk base tip cap c elem fr h =>
      by_cases hk : a = s ∧ b = o
      · obtain ⟨rfl, rfl⟩ := hk; exact h2 _ _ _ _ _ _ _ _ (.br a b kd lo f es rows v blk base tip cap c elem fr h)
      · rw [hg _ _ _ (by intros; contradiction) (fun _ _ _ _ _ _ _ e => by cases e; exact hk)]; exact .br a b kd lo f es rows v blk base tip cap c elem fr (H.br hk h)
    | brv a b lo f es rows v h =>
      by_cases hk : a = s ∧ b = o
      · obtain ⟨rfl, rfl⟩ := hk; exact h2 _ _ _ _ _ _ _ _ (.brv a b lo f es rows v h)
      · rw [hg _ _ _ (by intros; contradiction) (fun _ _ _ _ _ _ _ e => by cases e; exact hk)]; exact .brv a b lo f es rows v (H.sh h)
    | dead v => rw [hg _ _ _ (by intros; contradiction) (by intros; contradiction)]; exact .dead v
  ep := fun k v a b kd fl es i f row h s' o' e1 => by
    by_cases hk : a = s ∧ b = o
    · obtain ⟨rfl, rfl⟩ := hk; exact h3 _ _ _ _ _ _ _ _ h _ _ e1
    · rw [he _ _ hk] at e1; injection e1 with e1; injection e1 with e1 e2; subst e1; subst e2; exact H.ep hk h
  V := H.V
  box := fun b s' base tip h => H.own b s' 0 base tip h (by omega)

theorem demC_else {s o k j : Nat} {c : CV} (h1 : ∀ f es rows, c = .ow f es rows → ¬(k = s ∧ j = o)) (h2 : ∀ a b kd lo f es rows, c = .br a b kd lo f es rows → ¬(a = s ∧ b = o)) : demC s o k j c = c := by
  cases c with
  | ow f es rows => simp [demC, h1 f es rows rfl]
  | br a b kd lo f es rows => simp [demC, h2 a b kd lo f es rows rfl]
  | _ => rfl
theorem offC_else {s o k j : Nat} {c : CV} (h1 : ∀ f es rows, c = .ow f es rows → ¬(k = s ∧ j = o)) (h2 : ∀ a b kd lo f es rows, c = .br a b kd lo f es rows → ¬(a = s ∧ b = o)) : offC s o k j c = c := by
  cases c with
  | ow f es rows => simp [offC, h1 f es rows rfl]
  | br a b kd lo f es rows => simp [offC, h2 a b kd lo f es rows rfl]
  | _ => rfl
theorem turnC_else {s o k j es0 : Nat} {f0 f' : Bool} {rows' : List (List PV)} {c : CV} (h1 : ∀ f es rows, c = .ow f es rows → ¬(k = s ∧ j = o)) (h2 : ∀ a b kd lo f es rows, c = .br a b kd lo f es rows → ¬(a = s ∧ b = o)) : turnC s o f0 es0 f' rows' k j c = c := by
  cases c with
  | ow f es rows => simp [turnC, h1 f es rows rfl]
  | br a b kd lo f es rows => simp [turnC, h2 a b kd lo f es rows rfl]
  | _ => rfl
theorem mvC_else {s o s' o' k j : Nat} {m : Option Nat} {c : CV} (h1 : ∀ f es rows, c = .ow f es rows → ¬(k = s ∧ j = o)) (h2 : ∀ a b kd lo f es rows, c = .br a b kd lo f es rows → ¬(a = s ∧ b = o)) : mvC s o s' o' m k j c = c := by
  cases c with
  | ow f es rows => simp [mvC, h1 f es rows rfl]
  | br a b kd lo f es rows => simp [mvC, h2 a b kd lo f es rows rfl]
  | _ => rfl
theorem epOff_else {s o a b : Nat} (h : ¬(a = s ∧ b = o)) : epOff s o a b = some (a, b) := by simp [epOff, h]
theorem epTo_else {s o s' o' a b : Nat} {m : Option Nat} (h : ¬(a = s ∧ b = o)) : epTo s o s' o' m a b = some (a, b) := by simp [epTo, h]
theorem epOff_self (s o : Nat) : epOff s o s o = none := by simp [epOff]
theorem epTo_self (s o s' o' : Nat) : epTo s o s' o' none s o = some (s', o') := by simp [epTo]

/-- The blocks of cell (s, o) get other marks; those for which Q holds may be read by all. -/
def Ctx.retag (X : Ctx) (s o : Nat) (T : Nat → Nat → Option Own) (Q : Prop) : Ctx :=
  { X with
    own := fun b => match X.own b with
      | some (s', p, base, tip) => if s' = s ∧ p = o + 1 then T base tip else some (s', p, base, tip)
      | none => none
    vs := fun b => X.vs b ∨ (Q ∧ ∃ base tip, X.own b = some (s, o + 1, base, tip)) }

theorem retag_other {X : Ctx} {s o : Nat} {T : Nat → Nat → Option Own} {Q : Prop} {b s' p base tip : Nat} (h : X.own b = some (s', p, base, tip)) (hne : ¬(s' = s ∧ p = o + 1)) :
    (X.retag s o T Q).own b = some (s', p, base, tip) := by simp [Ctx.retag, h, hne]
theorem retag_same {X : Ctx} {s o : Nat} {T : Nat → Nat → Option Own} {Q : Prop} {b base tip : Nat} (h : X.own b = some (s, o + 1, base, tip)) :
    (X.retag s o T Q).own b = T base tip := by simp [Ctx.retag, h]

theorem near_retag {X : Ctx} {s o : Nat} {T : Nat → Nat → Option Own} {Q : Prop} : Near s o X (X.retag s o T Q) where
  V := fun f b h => ⟨h.elim (fun h => .inl (.inl h)) .inr, rfl⟩
  own := fun b s' p base tip h hne => ⟨retag_other h hne, rfl⟩

theorem V_of_own {X : Ctx} {s o : Nat} {T : Nat → Nat → Option Own} {Q : Prop} (q : Q) {b base tip : Nat} (f : Bool) (h : X.own b = some (s, o + 1, base, tip)) : (X.retag s o T Q).V f b := .inl (.inr ⟨q, base, tip, h⟩)

theorem Rd_of_ow {X : Ctx} {s o : Nat} {T : Nat → Nat → Option Own} {Q : Prop} (q : Q) {v : Value} {f : Bool} {es : Nat} {rows : List (List PV)} (h : CVRel X s o v (.ow f es rows)) : Rd (X.retag s o T Q).w.heap ((X.retag s o T Q).V f) v (.s es rows) := by
  cases h with
  | ow0 _ _ a => exact .s0 a 0 es
  | ow _ _ _ _ blk off cap c elem fr h =>
    rw [h.val]
    exact .s blk off _ cap es c elem fr rows (V_of_own q f h.own) h.cells rfl h.le (h.reads.mono (near_retag.V f))

theorem Rd_of_br {X : Ctx} {s o : Nat} {T : Nat → Nat → Option Own} {Q : Prop} (q : Q) {k j kd lo : Nat} {v : Value} {f : Bool} {es : Nat} {rows : List (List PV)} (h : CVRel X k j v (.br s o kd lo f es rows)) : Rd (X.retag s o T Q).w.heap ((X.retag s o T Q).V f) v (.s es rows) := by
  cases h with
  | br0 _ _ _ _ _ _ a => exact .s0 a 0 es
  | br _ _ _ _ _ _ _ _ blk base tip cap c elem fr h =>
    rw [h.val]
    exact .s blk _ _ cap es c elem fr rows (V_of_own q f h.own) h.cells rfl h.le (h.reads.mono (near_retag.V f))
  | brv _ _ _ _ _ _ _ h => exact near_retag.sh h

theorem maps_demote (X : Ctx) (s o : Nat) : Maps X (X.retag s o (fun _ _ => none) True) (demC s o) (epOff s o) :=
  near_retag.maps (fun k j c h1 h2 => demC_else h1 h2) (fun _ _ h => epOff_else h)
    (fun v f es rows h => by simp only [demC, and_self, if_true, Bool.false_eq_true, if_false]; exact .sh f _ v (Rd_of_ow trivial h))
    (fun k j v kd lo f es rows h => by simp only [demC, and_self, if_true, Bool.false_eq_true, if_false]; exact .sh f _ v (Rd_of_br trivial h))
    (fun k v kd fl es i f row h s' o' e1 => by rw [epOff_self] at e1; simp at e1)

theorem maps_off (X : Ctx) (s o : Nat) (T : Nat → Nat → Option Own) (Q : Prop) : Maps X (X.retag s o T Q) (offC s o) (epOff s o) :=
  near_retag.maps (fun k j c h1 h2 => offC_else h1 h2) (fun _ _ h => epOff_else h)
    (fun v f es rows h => by simp only [offC, and_self, if_true, Bool.false_eq_true, if_false]; exact .dead v)
    (fun k j v kd lo f es rows h => by simp only [offC, and_self, if_true, Bool.false_eq_true, if_false]; exact .dead v)
    (fun k v kd fl es i f row h s' o' e1 => by rw [epOff_self] at e1; simp at e1)

theorem maps_move (X : Ctx) (s o s' o' : Nat) : Maps X (X.retag s o (fun base tip => some (s', o' + 1, base, tip)) False) (mvC s o s' o' none) (epTo s o s' o' none) :=
  near_retag.maps (fun k j c h1 h2 => mvC_else h1 h2) (fun _ _ h => epTo_else h)
    (fun v f es rows h => by
      simp only [mvC, and_self, if_true, Bool.false_eq_true, if_false]
      cases h with
      | ow0 _ _ a => exact .br0 s' o' _ 0 f es a
      | ow _ _ _ _ blk off cap c elem fr h =>
        exact .br s' o' _ 0 f es rows v blk off rows.length cap c elem fr ⟨by rw [h.val]; simp, h.le, retag_same h.own, h.cells, by simpa using h.fits, h.loose, by simp, fun _ => by simp, fun _ => rfl, by simpa using h.reads.mono (near_retag.V f)⟩)
    (fun k j v kd lo f es rows h => by
      simp only [mvC, and_self, if_true, Bool.false_eq_true, if_false]
      cases h with
      | br0 _ _ _ _ _ _ a => exact .br0 s' o' _ lo f es a
      | br _ _ _ _ _ _ _ _ blk base tip cap c elem fr h =>
        exact .br s' o' _ lo f es rows v blk base tip cap c elem fr ⟨h.val, h.le, retag_same h.own, h.cells, h.fits, h.loose, h.tipLe, h.tip1, h.lo0, h.reads.mono (near_retag.V f)⟩
      | brv _ _ _ _ _ _ _ h => exact .brv s' o' lo f es rows v (near_retag.sh h))
    (fun k v kd fl es i f row h s1 o1 e1 => by
      rw [epTo_self] at e1; injection e1 with e1; injection e1 with e1 e2; subst e1; subst e2
      cases h with
      | ep _ _ _ _ _ _ _ _ blk off base tip c elem fr ho he hl hb hfr hr => exact .ep s' o' kd fl es i f row blk off base tip c elem fr (retag_same ho) he hl hb hfr (hr.mono (near_retag.V fl))
      | epv _ _ _ _ _ _ _ blk off c elem fr hv hb hr => exact .epv s' o' fl es i f row blk off c elem fr (near_retag.V _ _ hv).1 hb (hr.mono (near_retag.V fl)))

/-- The marks stay right, if the new ones are free. -/
theorem Inv.retag {X : Ctx} (hi : Inv X) {s o : Nat} {T : Nat → Nat → Option Own} {Q : Prop} (hq : Q → ∀ base tip, T base tip = none)
    (hT : ∀ base tip s' p base' tip', T base tip = some (s', p, base', tip') → ¬(s' = s ∧ p = o + 1) → ∀ b base tip, X.own b ≠ some (s', p, base, tip)) : Inv (X.retag s o T Q) where
  own := fun b t h => by
    simp only [Ctx.retag] at h ⊢
    cases e : X.own b with
    | none => simp [e] at h
    | some t' =>
      obtain ⟨s', p, base, tip⟩ := t'
      obtain ⟨h1, h2, h3⟩ := hi.own b _ e
      refine ⟨h1, ?_, h3⟩
      rintro (h4 | ⟨q, base', tip', h4⟩)
      · exact h2 h4
      · injection h4 with h4
        injection h4 with e1 h4
        injection h4 with e2 h4
        subst e1; subst e2
        simp [e, hq q] at h
  one := fun b b' s1 p1 base tip base' tip' h h' => by
    simp only [Ctx.retag] at h h'
    cases e : X.own b with
    | none => simp [e] at h
    | some t =>
      cases e' : X.own b' with
      | none => simp [e'] at h'
      | some t' =>
        obtain ⟨sa, pa, ba, ta⟩ := t
        obtain ⟨sb, pb, bb, tb⟩ := t'
        simp only [e, e'] at h h'
        by_cases ha : sa = s ∧ pa = o + 1
        · rw [if_pos ha] at h
          obtain ⟨rfl, rfl⟩ := ha
          by_cases hb : sb = sa ∧ pb = o + 1
          · obtain ⟨rfl, rfl⟩ := hb
            exact hi.one b b' _ _ _ _ _ _ e e'
          · rw [if_neg hb] at h'
            injection h' with h'
            injection h' with e1 h'
            injection h' with e2 h'
            subst e1; subst e2
            exact absurd e' (hT _ _ _ _ _ _ h hb _ _ _)
        · rw [if_neg ha] at h
          injection h with h
          injection h with e1 h
          injection h with e2 h
          subst e1; subst e2
          by_cases hb : sb = s ∧ pb = o + 1
          · rw [if_pos hb] at h'
            exact absurd e (hT _ _ _ _ _ _ h' ha _ _ _)
          · rw [if_neg hb] at h'
            injection h' with h'
            injection h' with e1 h'
            injection h' with e2 h'
            subst e1; subst e2
            exact hi.one b b' _ _ _ _ _ _ e e'
  vs := fun b h => by
    rcases h with h | ⟨_, base, tip, h⟩
    · exact hi.vs b h
    · exact (hi.own b _ h).1
  va := hi.va

theorem goes_retag (X : Ctx) (s o : Nat) (T : Nat → Nat → Option Own) (Q : Prop) : Goes X (X.retag s o T Q) where
  os := rfl
  tape := rfl
  output := rfl
  size := Nat.le_refl _
  keep := fun _ _ _ => rfl
  va := rfl
  vs := fun _ h => .inl h
  vs' := fun b h => by
    rcases h with h | ⟨_, base, tip, h⟩
    · exact .inl h
    · exact .inr (.inl (by simp [h]))
  own' := fun b h => by
    refine .inl fun e => h ?_
    simp [Ctx.retag, e]

/-- The cells behind a map of all slots. -/
theorem cellAt_map (g : Nat → Nat → CV → CV) (e : EpMap) (σ : St) (s p : Nat) (hd : g s p .dead = .dead) : cellAt (mapSt g e 0 σ) s p = g s p (cellAt σ s p) ∨ ((∀ sh l, σ[s]? ≠ some (.c sh l)) ∧ cellAt σ s p = .dead) := by
  unfold cellAt
  simp only [List.getD_eq_getElem?_getD, mapSt_get, Nat.zero_add]
  cases hs : σ[s]? with
  | none => right; simp
  | some x =>
    cases x with
    | c sh l =>
      left
      simp only [Option.map_some, Option.getD_some, SV.mapC, List.getD_eq_getElem?_getD, mapAll_get, Nat.zero_add]
      cases l[p]? <;> simp [hd]
    | undef => right; simp
    | bp a b => right; simp
    | ep _ _ _ _ _ _ _ _ => right; simp
    | sp _ _ _ => right; simp
    | fn _ _ => right; simp

theorem cellAt_map_ow (g : Nat → Nat → CV → CV) (e : EpMap) (σ : St) (s p : Nat) (hd : g s p .dead = .dead) (h : (cellAt σ s p).isOw = true) : cellAt (mapSt g e 0 σ) s p = g s p (cellAt σ s p) := by
  rcases cellAt_map g e σ s p hd with h1 | ⟨_, h1⟩
  · exact h1
  · rw [h1] at h; simp [CV.isOw] at h

end Go.Proofs.Ytlbigobmhglppaa.R
