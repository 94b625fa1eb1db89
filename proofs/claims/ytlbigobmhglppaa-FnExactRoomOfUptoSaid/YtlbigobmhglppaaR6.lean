/- What the evaluator holds, as one fact; a look that is laid down; a slot that is cleared. -/
import Derived.Test.YtlbigobmhglppaaR5
set_option linter.unusedVariables false
set_option linter.unusedSimpArgs false
namespace Go.Proofs.Ytlbigobmhglppaa.R
open Go

/-- Each mark has its cell, but for the places of E. -/
structure TagsE (X : Ctx) (σ : St) (E : Nat → Nat → Prop) : Prop where
  cell : ∀ b s p base tip, X.own b = some (s, p + 1, base, tip) → E s p ∨ (cellAt σ s p).isOw = true
  box : ∀ b s base tip, X.own b = some (s, 0, base, tip) → ∃ l, σ[s]? = some (.c .box l)

structure Good (X : Ctx) (vs : List Value) (σ : St) (E : Nat → Nat → Prop) : Prop where
  inv : Inv X
  frame : Frame X vs σ
  tags : TagsE X σ E

def NoE : Nat → Nat → Prop := fun _ _ => False

theorem mapSt_box {g : Nat → Nat → CV → CV} {e : EpMap} {σ : St} {s : Nat} (h : ∃ l, σ[s]? = some (.c .box l)) : ∃ l, (mapSt g e 0 σ)[s]? = some (.c .box l) := by
  obtain ⟨l, h⟩ := h
  exact ⟨mapAll (g s) 0 l, by rw [mapSt_get, h]; simp [SV.mapC]⟩

theorem demC_dead (s o k j : Nat) : demC s o k j .dead = .dead := rfl
theorem offC_dead (s o k j : Nat) : offC s o k j .dead = .dead := rfl
theorem mvC_dead (s o s' o' : Nat) (m : Option Nat) (k j : Nat) : mvC s o s' o' m k j .dead = .dead := rfl
theorem turnC_dead (s o : Nat) (f0 : Bool) (es0 : Nat) (f' : Bool) (r : List (List PV)) (k j : Nat) : turnC s o f0 es0 f' r k j .dead = .dead := rfl

theorem demC_ow {s o k j : Nat} {c : CV} (hc : c.isOw = true) (h : ¬(k = s ∧ j = o)) : (demC s o k j c).isOw = true := by
  cases c with
  | ow f es rows => simp only [demC]; rw [if_neg h]; rfl
  | _ => simp [CV.isOw] at hc
theorem offC_ow {s o k j : Nat} {c : CV} (hc : c.isOw = true) (h : ¬(k = s ∧ j = o)) : (offC s o k j c).isOw = true := by
  cases c with
  | ow f es rows => simp only [offC]; rw [if_neg h]; rfl
  | _ => simp [CV.isOw] at hc
theorem mvC_ow {s o s' o' k j : Nat} {m : Option Nat} {c : CV} (hc : c.isOw = true) (h : ¬(k = s ∧ j = o)) : (mvC s o s' o' m k j c).isOw = true := by
  cases c with
  | ow f es rows => simp only [mvC]; rw [if_neg h]; rfl
  | _ => simp [CV.isOw] at hc

theorem retag_own_cases {X : Ctx} {s o : Nat} {T : Nat → Nat → Option Own} {Q : Prop} {b : Nat} {t : Own} (h : (X.retag s o T Q).own b = some t) :
    (X.own b = some t ∧ ¬(t.1 = s ∧ t.2.1 = o + 1)) ∨ ∃ base tip, X.own b = some (s, o + 1, base, tip) ∧ T base tip = some t := by
  simp only [Ctx.retag] at h
  cases e : X.own b with
  | none => simp [e] at h
  | some t' =>
    obtain ⟨s', p, base, tip⟩ := t'
    simp only [e] at h
    by_cases hk : s' = s ∧ p = o + 1
    · rw [if_pos hk] at h
      obtain ⟨rfl, rfl⟩ := hk
      exact .inr ⟨base, tip, rfl, h⟩
    · rw [if_neg hk] at h
      injection h with h
      subst h
      exact .inl ⟨rfl, hk⟩

theorem tags_retag {X : Ctx} {σ : St} {E : Nat → Nat → Prop} (h : TagsE X σ E) {s o s' o' : Nat} {T : Nat → Nat → Option Own} {Q : Prop} {g : Nat → Nat → CV → CV} {e : EpMap}
    (hd : ∀ k j, g k j .dead = .dead) (hg : ∀ k j c, c.isOw = true → ¬(k = s ∧ j = o) → (g k j c).isOw = true)
    (hT : ∀ base tip t, T base tip = some t → t.1 = s' ∧ t.2.1 = o' + 1) : TagsE (X.retag s o T Q) (mapSt g e 0 σ) (fun a b => E a b ∨ (a = s' ∧ b = o')) where
  cell := fun b s1 p base tip h1 => by
    rcases retag_own_cases h1 with ⟨h2, h3⟩ | ⟨base', tip', h2, h3⟩
    · rcases h.cell _ _ _ _ _ h2 with h4 | h4
      · exact .inl (.inl h4)
      · right
        rw [cellAt_map_ow g e σ s1 p (hd _ _) h4]
        exact hg _ _ _ h4 (by simpa using h3)
    · have := hT _ _ _ h3
      exact .inl (.inr ⟨this.1, by simpa using this.2⟩)
  box := fun b s1 base tip h1 => by
    rcases retag_own_cases h1 with ⟨h2, h3⟩ | ⟨base', tip', h2, h3⟩
    · exact mapSt_box (h.box _ _ _ _ h2)
    · have := hT _ _ _ h3
      simp at this

theorem tags_retag_none {X : Ctx} {σ : St} {E : Nat → Nat → Prop} (h : TagsE X σ E) {s o : Nat} {Q : Prop} {g : Nat → Nat → CV → CV} {e : EpMap}
    (hd : ∀ k j, g k j .dead = .dead) (hg : ∀ k j c, c.isOw = true → ¬(k = s ∧ j = o) → (g k j c).isOw = true) : TagsE (X.retag s o (fun _ _ => none) Q) (mapSt g e 0 σ) E where
  cell := fun b s1 p base tip h1 => by
    rcases retag_own_cases h1 with ⟨h2, h3⟩ | ⟨base', tip', h2, h3⟩
    · rcases h.cell _ _ _ _ _ h2 with h4 | h4
      · exact .inl h4
      · right
        rw [cellAt_map_ow g e σ s1 p (hd _ _) h4]
        exact hg _ _ _ h4 (by simpa using h3)
    · simp at h3
  box := fun b s1 base tip h1 => by
    rcases retag_own_cases h1 with ⟨h2, h3⟩ | ⟨base', tip', h2, h3⟩
    · exact mapSt_box (h.box _ _ _ _ h2)
    · simp at h3

theorem good_demote {X : Ctx} {vs : List Value} {σ : St} {E : Nat → Nat → Prop} (h : Good X vs σ E) (s o : Nat) : Good (X.retag s o (fun _ _ => none) True) vs (demote s o σ) E where
  inv := h.inv.retag (fun _ _ _ => rfl) (fun _ _ _ _ _ _ h => by simp at h)
  frame := h.frame.map (maps_demote X s o)
  tags := tags_retag_none h.tags (demC_dead s o) (fun k j c hc hn => demC_ow hc hn)

/-- No block bears the mark of this place. -/
def Free (X : Ctx) (s p : Nat) : Prop := ∀ b base tip, X.own b ≠ some (s, p + 1, base, tip)

theorem Free.retag {X : Ctx} {s p : Nat} (h : Free X s p) {a b : Nat} {T : Nat → Nat → Option Own} {Q : Prop} (hT : ∀ base tip t, T base tip = some t → ¬(t.1 = s ∧ t.2.1 = p + 1)) : Free (X.retag a b T Q) s p := fun k base tip h1 => by
  rcases retag_own_cases h1 with ⟨h2, h3⟩ | ⟨base', tip', h2, h3⟩
  · exact h _ _ _ h2
  · exact hT _ _ _ h3 ⟨rfl, rfl⟩
theorem free_retag_self {X : Ctx} {s p : Nat} {T : Nat → Nat → Option Own} {Q : Prop} (hT : ∀ base tip t, T base tip = some t → ¬(t.1 = s ∧ t.2.1 = p + 1)) : Free (X.retag s p T Q) s p := fun k base tip h1 => by
  rcases retag_own_cases h1 with ⟨h2, h3⟩ | ⟨base', tip', h2, h3⟩
  · exact h3 ⟨rfl, rfl⟩
  · exact hT _ _ _ h3 ⟨rfl, rfl⟩

/-- What persist has done: the world is as it was; the cell's value reads at its new place; what was laid down before, at places other than those that have an owner now, reads as before. -/
structure Laid (X X' : Ctx) (σ : St) : Prop where
  goes : Goes X X'
  w : X'.w = X.w
  V : ∀ f b, X.V f b → X'.V f b
  own : ∀ b s p base tip, X.own b = some (s, p, base, tip) → (p = 0 ∨ (cellAt σ s (p - 1)).isOw = false) → X'.own b = some (s, p, base, tip)

theorem Laid.refl (X : Ctx) (σ : St) : Laid X X σ := ⟨.refl X, rfl, fun _ _ h => h, fun _ _ _ _ _ h _ => h⟩

theorem laid_retag {X : Ctx} {σ : St} {s o : Nat} (T : Nat → Nat → Option Own) (Q : Prop) (h : (cellAt σ s o).isOw = true) : Laid X (X.retag s o T Q) σ where
  goes := goes_retag X s o T Q
  w := rfl
  V := fun f b h => (near_retag.V f b h).1
  own := fun b s1 p base tip h1 h2 => retag_other h1 fun h3 => by
    obtain ⟨rfl, rfl⟩ := h3
    rcases h2 with h2 | h2
    · simp at h2
    · simp [h] at h2

/-- A value that reads without an owner, or with one that is no cell of σ. -/
def Firm (σ : St) (k j : Nat) : CV → Prop
  | .sh _ _ => True
  | .ow _ _ _ => (cellAt σ k j).isOw = false
  | .br _ _ _ _ _ _ _ => False
  | .dead => True

theorem Laid.cv {X X' : Ctx} {σ : St} (H : Laid X X' σ) {k j : Nat} {v : Value} {c : CV} (hf : Firm σ k j c) (h : CVRel X k j v c) : CVRel X' k j v c := by
  cases h with
  | sh f p v h => exact .sh f p v (h.mono fun b hb => ⟨H.V f b hb, by rw [H.w]⟩)
  | ow0 f es a => exact .ow0 f es a
  | ow f es rows v blk off cap c elem fr h =>
    exact .ow f es rows v blk off cap c elem fr ⟨h.val, h.le, H.own _ _ _ _ _ h.own (.inr hf), by rw [H.w]; exact h.cells, h.fits, h.loose, h.reads.mono fun b hb => ⟨H.V f b hb, by rw [H.w]⟩⟩
  | br0 => exact hf.elim
  | br => exact hf.elim
  | brv => exact hf.elim
  | dead v => exact .dead v

/-- A look: no cell of its own. -/
def Looks : CV → Prop
  | .ow _ _ rows => rows = []
  | _ => True

theorem no_ow {X : Ctx} {j : Nat} {v : Value} {f : Bool} {es : Nat} {rows : List (List PV)} (h : ∀ k, CVRel X k j v (.ow f es rows)) : rows = [] ∧ ∃ a, v = .slice a 0 0 := by
  have h0 := h 0
  have h1 := h 1
  cases h0 with
  | ow0 _ _ a => exact ⟨rfl, a, rfl⟩
  | ow _ _ _ _ blk off cap c elem fr h0 =>
    cases h1 with
    | ow0 _ _ a => exact ⟨rfl, a, rfl⟩
    | ow _ _ _ _ blk' off' cap' c' elem' fr' h1 =>
      have e := h0.val.symm.trans h1.val
      injection e with e1 e2 e3
      injection e1 with e1
      injection e1 with e1
      subst e1
      have := h0.own.symm.trans h1.own
      simp at this

/-- An operand's cell: it reads, whatever slot it is in; or who owned it has lost it. -/
def OV (X : Ctx) (σ : St) (v : Value) (c : CV) : Prop := (∀ k j, CVRel X k j v c) ∨ ∃ s o kd lo f es rows, c = .br s o kd lo f es rows ∧ (cellAt σ s o).isOw = false

/-- What laying down a look comes to. -/
structure Persisted (X X' : Ctx) (vs : List Value) (σ σ' : St) (E : Nat → Nat → Prop) (s' o' : Nat) (v : Value) (c' : CV) : Prop where
  laid : Laid X X' σ
  good : Good X' vs σ' (fun a b => E a b ∨ (a = s' ∧ b = o'))
  cv : CVRel X' s' o' v c'
  free : ∀ s p, ¬(s = s' ∧ p = o') → Free X s p → Free X' s p
  noOw : ∀ s p, (cellAt σ s p).isOw = false → (cellAt σ' s p).isOw = false
  ov : ∀ w d, OV X σ w d → OV X' σ' w d
  tag : c'.isOw = false → Free X' s' o'

theorem Good.weak {X : Ctx} {vs : List Value} {σ : St} {E E' : Nat → Nat → Prop} (g : Good X vs σ E) (h : ∀ a b, E a b → E' a b) : Good X vs σ E' :=
  ⟨g.inv, g.frame, fun b s p base tip h1 => (g.tags.cell b s p base tip h1).imp (h _ _) id, g.tags.box⟩

theorem isOw_map (g : Nat → Nat → CV → CV) (e : EpMap) (σ : St) (s p : Nat) (hd : g s p .dead = .dead) (hg : ∀ c, c.isOw = false → (g s p c).isOw = false) (h : (cellAt σ s p).isOw = false) : (cellAt (mapSt g e 0 σ) s p).isOw = false := by
  rcases cellAt_map g e σ s p hd with h1 | ⟨h2, _⟩
  · rw [h1]; exact hg _ h
  · have : cellAt (mapSt g e 0 σ) s p = .dead := by
      unfold cellAt
      simp only [List.getD_eq_getElem?_getD, mapSt_get, Nat.zero_add]
      cases hs : σ[s]? with
      | none => simp
      | some x =>
        cases x with
        | c sh l => exact absurd hs (h2 sh l)
        | undef => simp [SV.mapC]
        | bp a b => simp [SV.mapC]
        | ep a b kd fl es i f row =>
          simp only [Option.map_some, Option.getD_some, SV.mapC]
          cases e a b <;> simp
        | sp _ _ _ => simp [SV.mapC]
        | fn _ _ => simp [SV.mapC]
    rw [this]; rfl

theorem demC_no (s o k j : Nat) (c : CV) (h : c.isOw = false) : (demC s o k j c).isOw = false := by
  cases c with
  | br a b kd lo f es rows => simp only [demC]; split <;> rfl
  | ow f es rows => simp [CV.isOw] at h
  | _ => rfl
theorem offC_no (s o k j : Nat) (c : CV) (h : c.isOw = false) : (offC s o k j c).isOw = false := by
  cases c with
  | br a b kd lo f es rows => simp only [offC]; split <;> rfl
  | ow f es rows => simp [CV.isOw] at h
  | _ => rfl
theorem mvC_no (s o s' o' : Nat) (m : Option Nat) (k j : Nat) (c : CV) (h : c.isOw = false) : (mvC s o s' o' m k j c).isOw = false := by
  cases c with
  | br a b kd lo f es rows => simp only [mvC]; (repeat' split) <;> rfl
  | ow f es rows => simp [CV.isOw] at h
  | _ => rfl

theorem ov_retag {X : Ctx} {σ σ' : St} {s o : Nat} {T : Nat → Nat → Option Own} {Q : Prop} (hs : (cellAt σ' s o).isOw = false) (hn : ∀ a b, (cellAt σ a b).isOw = false → (cellAt σ' a b).isOw = false)
    (w : Value) (d : CV) (h : OV X σ w d) : OV (X.retag s o T Q) σ' w d := by
  rcases h with h | ⟨s1, o1, kd, lo, f, es, rows, rfl, h⟩
  · cases d with
    | sh f p => left; intro k j; have := h k j; cases this with | sh _ _ _ h1 => exact .sh f p w (near_retag.sh h1)
    | dead => left; intro k j; exact .dead w
    | ow f es rows =>
      left; intro k j
      obtain ⟨rfl, a, rfl⟩ := no_ow fun k => h k 0
      exact .ow0 f es a
    | br s1 o1 kd lo f es rows =>
      by_cases hk : s1 = s ∧ o1 = o
      · obtain ⟨rfl, rfl⟩ := hk
        exact .inr ⟨s1, o1, kd, lo, f, es, rows, rfl, hs⟩
      · left; intro k j
        have := h k j
        cases this with
        | br0 _ _ _ _ _ _ a => exact .br0 s1 o1 kd lo f es a
        | br _ _ _ _ _ _ _ _ blk base tip cap c elem fr hb => exact .br s1 o1 kd lo f es rows w blk base tip cap c elem fr (near_retag.br hk hb)
        | brv _ _ _ _ _ _ _ hb => exact .brv s1 o1 lo f es rows w (near_retag.sh hb)
  · exact .inr ⟨s1, o1, kd, lo, f, es, rows, rfl, hn _ _ h⟩

theorem self_no (g : Nat → Nat → CV → CV) (e : EpMap) (σ : St) (s o : Nat) (hd : g s o .dead = .dead) (hg : ∀ c, (g s o c).isOw = false) : (cellAt (mapSt g e 0 σ) s o).isOw = false := by
  cases hc : (cellAt σ s o).isOw with
  | true => rw [cellAt_map_ow g e σ s o hd hc]; exact hg _
  | false => exact isOw_map g e σ s o hd (fun c _ => hg c) hc
theorem demC_self (s o : Nat) (c : CV) : (demC s o s o c).isOw = false := by
  cases c with
  | br a b kd lo f es rows => simp only [demC]; split <;> rfl
  | ow f es rows => simp [demC, CV.isOw]
  | _ => rfl
theorem offC_self (s o : Nat) (c : CV) : (offC s o s o c).isOw = false := by
  cases c with
  | br a b kd lo f es rows => simp only [offC]; split <;> rfl
  | ow f es rows => simp [offC, CV.isOw]
  | _ => rfl
theorem mvC_self (s o s' o' : Nat) (m : Option Nat) (c : CV) : (mvC s o s' o' m s o c).isOw = false := by
  cases c with
  | br a b kd lo f es rows => simp only [mvC]; (repeat' split) <;> rfl
  | ow f es rows => simp only [mvC, and_self, if_true]; (repeat' split) <;> rfl
  | _ => rfl

theorem persist_good {X : Ctx} {vs : List Value} {σ σ' : St} {E : Nat → Nat → Prop} {s' o' : Nat} {v : Value} {c c' : CV} (h : Good X vs σ E) (hov : OV X σ v c) (hfree : Free X s' o')
    (he : persist s' o' c σ = some (σ', c')) : ∃ X', Persisted X X' vs σ σ' E s' o' v c' := by
  unfold persist at he
  split at he
  · rename_i f p
    injection he with he; injection he with e1 e2; subst e1; subst e2
    refine ⟨X, .refl X σ, h.weak fun _ _ => .inl, ?_, fun _ _ _ h => h, fun _ _ h => h, fun _ _ h => h, fun _ => hfree⟩
    have hv := hov.resolve_right (by rintro ⟨_, _, _, _, _, _, _, h, _⟩; cases h) 0 0
    cases hv with | sh _ _ _ hv => exact .sh f p v hv
  · rename_i f es
    injection he with he; injection he with e1 e2; subst e1; subst e2
    have hv := hov.resolve_right (by rintro ⟨_, _, _, _, _, _, _, h, _⟩; cases h)
    obtain ⟨_, a, rfl⟩ := no_ow fun k => hv k 0
    exact ⟨X, .refl X σ, h.weak fun _ _ => .inl, .ow0 f es a, fun _ _ _ h => h, fun _ _ h => h, fun _ _ h => h, fun _ => hfree⟩
  · rename_i s o kd lo f es rows
    by_cases hc : (cellAt σ s o).isOw = true
    case neg => rw [if_neg hc] at he; simp at he
    rw [if_pos hc] at he
    have hv0 := hov.resolve_right (by rintro ⟨_, _, _, _, _, _, _, h, h1⟩; cases h; simp [hc] at h1) 0 0
    by_cases hk0 : kd = 0
    · rw [if_pos hk0] at he
      injection he with he; injection he with e1 e2; subst e1; subst e2
      let T : Nat → Nat → Option Own := fun base tip => some (s', o' + 1, base, tip)
      have hT : ∀ base tip t, T base tip = some t → t.1 = s' ∧ t.2.1 = o' + 1 := fun base tip t ht => by injection ht with ht; subst ht; exact ⟨rfl, rfl⟩
      refine ⟨X.retag s o T False, laid_retag T False hc, ⟨h.inv.retag (fun h => h.elim) ?_, h.frame.map (maps_move X s o s' o'), tags_retag h.tags (mvC_dead s o s' o' none) (fun k j c hc hn => mvC_ow hc hn) hT⟩, ?_, ?_, ?_, ?_, fun hh => by simp [CV.isOw] at hh⟩
      · intro base tip s1 p1 base1 tip1 ht _ b base2 tip2
        injection ht with ht; injection ht with e1 ht; injection ht with e2 ht; subst e1; subst e2
        exact hfree b base2 tip2
      · cases hv0 with
        | br0 _ _ _ _ _ _ a => exact .ow0 f es a
        | br _ _ _ _ _ _ _ _ blk base tip cap c elem fr hb =>
          have hlo := hb.lo0 hk0
          have htip := hb.tip1 (by omega)
          subst hlo
          refine .ow f es rows v blk base cap c elem fr ⟨by rw [hb.val]; simp, hb.le, ?_, hb.cells, by simpa using hb.fits, hb.loose, by simpa using hb.reads.mono (near_retag.V f)⟩
          rw [retag_same hb.own]
          simp only [T]
          rw [← htip]; simp
        | brv => omega
      · intro a b hne hf
        exact hf.retag fun base tip t ht ⟨h1, h2⟩ => by
          have := hT base tip t ht
          exact hne ⟨h1.symm.trans this.1, by omega⟩
      · exact fun a b hh => isOw_map _ _ σ a b (mvC_dead s o s' o' none a b) (mvC_no s o s' o' none a b) hh
      · exact ov_retag (self_no _ _ σ s o (mvC_dead s o s' o' none s o) (mvC_self s o s' o' none)) fun a b hh => isOw_map _ _ σ a b (mvC_dead s o s' o' none a b) (mvC_no s o s' o' none a b) hh
    · rw [if_neg hk0] at he
      by_cases hk1 : kd = 1
      · rw [if_pos hk1] at he
        injection he with he; injection he with e1 e2; subst e1; subst e2
        let T : Nat → Nat → Option Own := fun base tip => some (s', o' + 1, base + lo * es, rows.length)
        have hT : ∀ base tip t, T base tip = some t → t.1 = s' ∧ t.2.1 = o' + 1 := fun base tip t ht => by injection ht with ht; subst ht; exact ⟨rfl, rfl⟩
        refine ⟨X.retag s o T False, laid_retag T False hc, ⟨h.inv.retag (fun h => h.elim) ?_, h.frame.map (maps_off X s o T False), tags_retag h.tags (offC_dead s o) (fun k j c hc hn => offC_ow hc hn) hT⟩, ?_, ?_, ?_, ?_, fun hh => by simp [CV.isOw] at hh⟩
        · intro base tip s1 p1 base1 tip1 ht _ b base2 tip2
          injection ht with ht; injection ht with e1 ht; injection ht with e2 ht; subst e1; subst e2
          exact hfree b base2 tip2
        · cases hv0 with
          | br0 _ _ _ _ _ _ a => exact .ow0 f es a
          | br _ _ _ _ _ _ _ _ blk base tip cap c elem fr hb =>
            exact .ow f es rows v blk (base + lo * es) cap c elem fr ⟨hb.val, hb.le, retag_same hb.own, hb.cells, hb.fits, hb.loose, hb.reads.mono (near_retag.V f)⟩
          | brv => omega
        · intro a b hne hf
          exact hf.retag fun base tip t ht ⟨h1, h2⟩ => by
            have := hT base tip t ht
            exact hne ⟨h1.symm.trans this.1, by omega⟩
        · exact fun a b hh => isOw_map _ _ σ a b (offC_dead s o a b) (offC_no s o a b) hh
        · exact ov_retag (self_no _ _ σ s o (offC_dead s o s o) (offC_self s o)) fun a b hh => isOw_map _ _ σ a b (offC_dead s o a b) (offC_no s o a b) hh
      · rw [if_neg hk1] at he
        injection he with he; injection he with e1 e2; subst e1; subst e2
        refine ⟨X.retag s o (fun _ _ => none) True, laid_retag _ True hc, (good_demote h s o).weak fun _ _ => .inl, .sh f _ v (Rd_of_br trivial hv0), ?_, ?_, ?_, fun _ => hfree.retag fun _ _ _ ht => by simp at ht⟩
        · intro a b _ hf
          exact hf.retag fun _ _ _ ht => by simp at ht
        · exact fun a b hh => isOw_map _ _ σ a b (demC_dead s o a b) (demC_no s o a b) hh
        · exact ov_retag (self_no _ _ σ s o (demC_dead s o s o) (demC_self s o)) fun a b hh => isOw_map _ _ σ a b (demC_dead s o a b) (demC_no s o a b) hh
  · simp at he

/-- Operands' cells. -/
inductive OCells (X : Ctx) (σ : St) : List Value → List CV → Prop
  | nil : OCells X σ [] []
  | cons (v : Value) (c : CV) (vs : List Value) (l : List CV) : OV X σ v c → OCells X σ vs l → OCells X σ (v :: vs) (c :: l)

theorem OCells.map {X X' : Ctx} {σ σ' : St} (H : ∀ v c, OV X σ v c → OV X' σ' v c) : ∀ {vs : List Value} {l : List CV}, OCells X σ vs l → OCells X' σ' vs l
  | _, _, .nil => .nil
  | _, _, .cons v c vs l h t => .cons v c vs l (H v c h) (OCells.map H t)

theorem OCells.length {X : Ctx} {σ : St} : ∀ {vs : List Value} {l : List CV}, OCells X σ vs l → vs.length = l.length
  | _, _, .nil => rfl
  | _, _, .cons v c vs l h t => by simp [OCells.length t]

/-- What laying down several looks comes to. -/
structure PersistedAll (X X' : Ctx) (vs : List Value) (σ σ' : St) (E : Nat → Nat → Prop) (s' j n : Nat) (vals : List Value) (l' : List CV) : Prop where
  goes : Goes X X'
  w : X'.w = X.w
  good : Good X' vs σ' (fun a b => E a b ∨ (a = s' ∧ j ≤ b ∧ b < j + n))
  cells : CellsRel X' s' j vals l'
  len : l'.length = n
  free : ∀ s p, ¬(s = s' ∧ j ≤ p ∧ p < j + n) → Free X s p → Free X' s p
  noOw : ∀ s p, (cellAt σ s p).isOw = false → (cellAt σ' s p).isOw = false
  ov : ∀ w d, OV X σ w d → OV X' σ' w d
  firm : ∀ k p v c, Firm σ k p c → CVRel X k p v c → CVRel X' k p v c
  size : σ'.length = σ.length
  tag : ∀ (p : Nat) (c : CV), l'[p]? = some c → c.isOw = false → Free X' s' (j + p)

theorem persist_length {s' o' : Nat} {c c' : CV} {σ σ' : St} (h : persist s' o' c σ = some (σ', c')) : σ'.length = σ.length := by
  unfold persist at h
  split at h
  · injection h with h; injection h with h; subst h; rfl
  · injection h with h; injection h with h; subst h; rfl
  · split at h
    · split at h
      · injection h with h; injection h with h; subst h; exact mapSt_length _ _ _ _
      · split at h
        · injection h with h; injection h with h; subst h; exact mapSt_length _ _ _ _
        · injection h with h; injection h with h; subst h; exact mapSt_length _ _ _ _
    · simp at h
  · simp at h

theorem Firm.keep {σ σ' : St} (h : ∀ s p, (cellAt σ s p).isOw = false → (cellAt σ' s p).isOw = false) {k j : Nat} {c : CV} (hf : Firm σ k j c) : Firm σ' k j c := by
  cases c with
  | ow f es rows => exact h _ _ hf
  | _ => exact hf

theorem persistAll_good (vs : List Value) (s' : Nat) : ∀ {l : List CV} {vals : List Value} {X : Ctx} {σ σ' : St} {E : Nat → Nat → Prop} {j : Nat} {l' : List CV}, Good X vs σ E → OCells X σ vals l →
    (∀ p, j ≤ p → p < j + l.length → Free X s' p ∧ (cellAt σ s' p).isOw = false) → persistAll s' j l σ = some (σ', l') → ∃ X', PersistedAll X X' vs σ σ' E s' j l.length vals l' := by
  intro l
  induction l with
  | nil =>
    intro vals X σ σ' E j l' h ho hf he
    simp only [persistAll] at he
    injection he with he; injection he with e1 e2; subst e1; subst e2
    cases ho
    exact ⟨X, .refl X, rfl, h.weak fun _ _ => .inl, .nil j, rfl, fun _ _ _ h => h, fun _ _ h => h, fun _ _ h => h, fun _ _ _ _ _ h => h, rfl, fun p c hc => by simp at hc⟩
  | cons c l ih =>
    intro vals X σ σ' E j l' h ho hf he
    cases ho with
    | cons v _ vals _ hov ho =>
    simp only [persistAll] at he
    cases e1 : persist s' j c σ with
    | none => simp [e1] at he
    | some r =>
      obtain ⟨σ1, c'⟩ := r
      simp only [e1, Option.bind_some] at he
      cases e2 : persistAll s' (j + 1) l σ1 with
      | none => simp [e2] at he
      | some q =>
        obtain ⟨σ2, l2⟩ := q
        simp only [e2, Option.map_some] at he
        injection he with he; injection he with e3 e4; subst e3; subst e4
        obtain ⟨X1, p1⟩ := persist_good h hov (hf j (Nat.le_refl _) (by simp)).1 e1
        obtain ⟨X2, p2⟩ := ih p1.good (ho.map p1.ov) (fun p h1 h2 => ⟨p1.free _ _ (by omega) (hf p (by omega) (by simp; omega)).1, p1.noOw _ _ (hf p (by omega) (by simp; omega)).2⟩) e2
        refine ⟨X2, p1.laid.goes.trans p2.goes, p2.w.trans p1.laid.w, p2.good.weak ?_, ?_, by simp [p2.len], ?_, fun s p h => p2.noOw _ _ (p1.noOw _ _ h), fun w d h => p2.ov _ _ (p1.ov _ _ h), ?_, p2.size.trans (persist_length e1), ?_⟩
        · rintro a b ((h1 | ⟨rfl, rfl⟩) | ⟨rfl, h1, h2⟩)
          · exact .inl h1
          · exact .inr ⟨rfl, Nat.le_refl _, by simp⟩
          · exact .inr ⟨rfl, by omega, by simp; omega⟩
        · refine .cons j v c' vals l2 (p2.firm s' j v c' ?_ p1.cv) p2.cells
          cases c' with
          | sh f p => trivial
          | dead => trivial
          | ow f es rows => exact p1.noOw _ _ (hf j (Nat.le_refl _) (by simp)).2
          | br a b kd lo f es rows =>
            unfold persist at e1
            split at e1
            · injection e1 with e1; injection e1 with _ e1; cases e1
            · injection e1 with e1; injection e1 with _ e1; cases e1
            · split at e1
              · split at e1
                · injection e1 with e1; injection e1 with _ e1; cases e1
                · split at e1
                  · injection e1 with e1; injection e1 with _ e1; cases e1
                  · injection e1 with e1; injection e1 with _ e1; cases e1
              · simp at e1
            · simp at e1
        · intro s p hne hfr
          refine p2.free s p (fun h3 => hne ⟨h3.1, by omega, by simp; omega⟩) (p1.free s p (fun h3 => hne ⟨h3.1, by omega, by simp; omega⟩) hfr)
        · intro k p v1 c1 hfm h1
          exact p2.firm k p v1 c1 (hfm.keep p1.noOw) (p1.laid.cv hfm h1)
        · intro p c1 h1 h2
          cases p with
          | zero =>
            simp at h1; subst h1
            exact p2.free _ _ (by omega) (p1.tag h2)
          | succ p =>
            have := p2.tag p c1 (by simpa using h1) h2
            rw [show j + (p + 1) = j + 1 + p from by omega]
            exact this

end Go.Proofs.Ytlbigobmhglppaa.R
