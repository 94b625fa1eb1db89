/- Looks that go into an array; a slot that is cleared and written anew. -/
import Derived.Test.YtlbigobmhglppaaR6
set_option linter.unusedVariables false
set_option linter.unusedSimpArgs false
namespace Go.Proofs.Ytlbigobmhglppaa.R
open Go

theorem Rd.scalar {h : Array Obj} {V V' : Nat → Prop} {v : Value} {p : PV} (r : Rd h V v p) (hp : p.scalar = true) : Rd h V' v p := by
  cases r with
  | i k n => exact .i k n
  | b x => exact .b x
  | t s => exact .t s
  | s0 => simp [PV.scalar] at hp
  | s => simp [PV.scalar] at hp

theorem V_or {X : Ctx} {f : Bool} (g : Bool) {b : Nat} (h : X.V f b) : X.V (f || g) b := h.elim .inl fun h => .inr ⟨by simp [h.1], h.2⟩
theorem V_or' {X : Ctx} {f : Bool} (g : Bool) {b : Nat} (h : X.V f b) : X.V (g || f) b := h.elim .inl fun h => .inr ⟨by simp [h.1], h.2⟩

/-- Values that read as a row. -/
inductive RdL (X : Ctx) (f : Bool) : List Value → List PV → Prop
  | nil : RdL X f [] []
  | cons (v : Value) (p : PV) (vs : List Value) (ps : List PV) : Rd X.w.heap (X.V f) v p → RdL X f vs ps → RdL X f (v :: vs) (p :: ps)

theorem RdL.mono {X X' : Ctx} {f f' : Bool} (H : ∀ b, X.V f b → X'.V f' b ∧ X'.w.heap[b]? = X.w.heap[b]?) : ∀ {vs : List Value} {ps : List PV}, RdL X f vs ps → RdL X' f' vs ps
  | _, _, .nil => .nil
  | _, _, .cons v p vs ps h t => .cons v p vs ps (h.mono H) (RdL.mono H t)
theorem RdL.length {X : Ctx} {f : Bool} : ∀ {vs : List Value} {ps : List PV}, RdL X f vs ps → vs.length = ps.length
  | _, _, .nil => rfl
  | _, _, .cons v p vs ps h t => by simp [RdL.length t]

/-- What the evaluator's steps keep that only hand slices on. -/
structure Kept (X X' : Ctx) (vs : List Value) (σ σ' : St) (E : Nat → Nat → Prop) : Prop where
  goes : Goes X X'
  w : X'.w = X.w
  good : Good X' vs σ' E
  free : ∀ s p, Free X s p → Free X' s p
  noOw : ∀ s p, (cellAt σ s p).isOw = false → (cellAt σ' s p).isOw = false
  ov : ∀ w d, OV X σ w d → OV X' σ' w d
  firm : ∀ k p v c, Firm σ k p c → CVRel X k p v c → CVRel X' k p v c
  V : ∀ f b, X.V f b → X'.V f b
  size : σ'.length = σ.length

theorem Kept.refl {X : Ctx} {vs : List Value} {σ : St} {E : Nat → Nat → Prop} (h : Good X vs σ E) : Kept X X vs σ σ E := ⟨.refl X, rfl, h, fun _ _ h => h, fun _ _ h => h, fun _ _ h => h, fun _ _ _ _ _ h => h, fun _ _ h => h, rfl⟩
theorem Kept.trans {X Y Z : Ctx} {vs : List Value} {σ τ ρ : St} {E : Nat → Nat → Prop} (a : Kept X Y vs σ τ E) (b : Kept Y Z vs τ ρ E) : Kept X Z vs σ ρ E :=
  ⟨a.goes.trans b.goes, b.w.trans a.w, b.good, fun s p h => b.free s p (a.free s p h), fun s p h => b.noOw s p (a.noOw s p h), fun w d h => b.ov w d (a.ov w d h), fun k p v c hf h => b.firm k p v c (hf.keep a.noOw) (a.firm k p v c hf h),
   fun f k h => b.V f k (a.V f k h), b.size.trans a.size⟩

theorem kept_demote {X : Ctx} {vs : List Value} {σ : St} {E : Nat → Nat → Prop} (h : Good X vs σ E) {s o : Nat} (hc : (cellAt σ s o).isOw = true) : Kept X (X.retag s o (fun _ _ => none) True) vs σ (demote s o σ) E where
  goes := goes_retag X s o _ True
  w := rfl
  good := good_demote h s o
  free := fun a b hf => hf.retag fun _ _ _ ht => by simp at ht
  noOw := fun a b hh => isOw_map _ _ σ a b (demC_dead s o a b) (demC_no s o a b) hh
  ov := ov_retag (self_no _ _ σ s o (demC_dead s o s o) (demC_self s o)) fun a b hh => isOw_map _ _ σ a b (demC_dead s o a b) (demC_no s o a b) hh
  firm := fun k p v c hf h => (laid_retag _ True hc).cv hf h
  V := fun f b h => (near_retag.V f b h).1
  size := mapSt_length _ _ _ _

theorem nest_good {X : Ctx} {vs : List Value} {σ σ' : St} {E : Nat → Nat → Prop} {v : Value} {c : CV} {f : Bool} {p : PV} (h : Good X vs σ E) (hov : OV X σ v c) (he : nest c σ = some (σ', f, p)) :
    ∃ X', Kept X X' vs σ σ' E ∧ Rd X'.w.heap (X'.V f) v p := by
  unfold nest at he
  split at he
  · rename_i f0 p0
    injection he with he; injection he with e1 he; injection he with e2 e3; subst e1; subst e2; subst e3
    refine ⟨X, .refl h, ?_⟩
    have hv := hov.resolve_right (by rintro ⟨_, _, _, _, _, _, _, h, _⟩; cases h) 0 0
    cases hv with
    | sh _ _ _ hv =>
      cases hs : p0.scalar with
      | true => exact hv.scalar hs
      | false => simpa [hs] using hv
  · rename_i f0 es
    injection he with he; injection he with e1 he; injection he with e2 e3; subst e1; subst e2; subst e3
    have hv := hov.resolve_right (by rintro ⟨_, _, _, _, _, _, _, h, _⟩; cases h)
    obtain ⟨_, a, rfl⟩ := no_ow fun k => hv k 0
    exact ⟨X, .refl h, .s0 a 0 es⟩
  · rename_i s o kd lo f0 es rows
    by_cases hc : (cellAt σ s o).isOw = true
    case neg => rw [if_neg hc] at he; simp at he
    rw [if_pos hc] at he
    injection he with he; injection he with e1 he; injection he with e2 e3; subst e1; subst e2; subst e3
    have hv0 := hov.resolve_right (by rintro ⟨_, _, _, _, _, _, _, h, h1⟩; cases h; simp [hc] at h1) 0 0
    exact ⟨_, kept_demote h hc, Rd_of_br trivial hv0⟩
  · simp at he

theorem nestAll_good (vs : List Value) : ∀ {l : List CV} {vals : List Value} {X : Ctx} {σ σ' : St} {E : Nat → Nat → Prop} {f : Bool} {ps : List PV}, Good X vs σ E → OCells X σ vals l →
    nestAll l σ = some (σ', f, ps) → ∃ X', Kept X X' vs σ σ' E ∧ RdL X' f vals ps := by
  intro l
  induction l with
  | nil =>
    intro vals X σ σ' E f ps h ho he
    simp only [nestAll] at he
    injection he with he; injection he with e1 he; injection he with e2 e3; subst e1; subst e2; subst e3
    cases ho
    exact ⟨X, .refl h, .nil⟩
  | cons c l ih =>
    intro vals X σ σ' E f ps h ho he
    cases ho with
    | cons v _ vals _ hov ho =>
    simp only [nestAll] at he
    cases e1 : nest c σ with
    | none => simp [e1] at he
    | some r =>
      obtain ⟨σ1, f1, p1⟩ := r
      simp only [e1, Option.bind_some] at he
      cases e2 : nestAll l σ1 with
      | none => simp [e2] at he
      | some q =>
        obtain ⟨σ2, f2, ps2⟩ := q
        simp only [e2, Option.map_some] at he
        injection he with he; injection he with e3 he; injection he with e4 e5; subst e3; subst e4; subst e5
        obtain ⟨X1, k1, r1⟩ := nest_good h hov e1
        obtain ⟨X2, k2, r2⟩ := ih k1.good (ho.map k1.ov) e2
        refine ⟨X2, k1.trans k2, .cons v p1 vals ps2 (r1.mono fun b hb => ⟨V_or f2 (k2.V f1 b hb), by rw [k2.w]⟩) (r2.mono fun b hb => ⟨V_or' f1 hb, rfl⟩)⟩

/-- The cells of slot s from place j on are nobody's own any more. -/
theorem demoteAll_good (vs : List Value) (s : Nat) : ∀ (n : Nat) {X : Ctx} {σ : St} {E : Nat → Nat → Prop} (j : Nat), Good X vs σ E →
    ∃ X', Kept X X' vs σ (demoteAll s j n σ) E ∧ ∀ p, j ≤ p → p < j + n → (cellAt (demoteAll s j n σ) s p).isOw = false := by
  intro n
  induction n with
  | zero => intro X σ E j h; exact ⟨X, .refl h, fun p h1 h2 => by omega⟩
  | succ n ih =>
    intro X σ E j h
    simp only [demoteAll]
    cases hc : (cellAt σ s j).isOw with
    | false =>
      simp only [Bool.false_eq_true, if_false]
      obtain ⟨X1, k1, h1⟩ := ih (j + 1) h
      refine ⟨X1, k1, fun p h2 h3 => ?_⟩
      by_cases hp : p = j
      · subst hp; exact k1.noOw _ _ hc
      · exact h1 p (by omega) (by omega)
    | true =>
      simp only [if_true]
      have k0 := kept_demote h hc
      obtain ⟨X1, k1, h1⟩ := ih (j + 1) k0.good
      refine ⟨X1, k0.trans k1, fun p h2 h3 => ?_⟩
      by_cases hp : p = j
      · subst hp; exact k1.noOw _ _ (self_no _ _ σ s p (demC_dead s p s p) (demC_self s p))
      · exact h1 p (by omega) (by omega)

theorem free_of {X : Ctx} {vs : List Value} {σ : St} (h : Good X vs σ NoE) {s p : Nat} (hn : (cellAt σ s p).isOw = false) : Free X s p := fun b base tip e => by
  rcases h.tags.cell _ _ _ _ _ e with h1 | h1
  · exact h1
  · simp [hn] at h1

/-- The variable of slot d has no mark any more. -/
def Ctx.unbox (X : Ctx) (d : Nat) : Ctx :=
  { X with own := fun b => match X.own b with
      | some (s, p, t) => if s = d ∧ p = 0 then none else some (s, p, t)
      | none => none }

theorem unbox_own {X : Ctx} {d b : Nat} {t : Own} (h : (X.unbox d).own b = some t) : X.own b = some t ∧ ¬(t.1 = d ∧ t.2.1 = 0) := by
  simp only [Ctx.unbox] at h
  cases e : X.own b with
  | none => simp [e] at h
  | some t' =>
    obtain ⟨s, p, u⟩ := t'
    simp only [e] at h
    by_cases hk : s = d ∧ p = 0
    · rw [if_pos hk] at h; simp at h
    · rw [if_neg hk] at h
      injection h with h
      subst h
      exact ⟨rfl, hk⟩
theorem unbox_keep {X : Ctx} {d b : Nat} {t : Own} (h : X.own b = some t) (hn : ¬(t.1 = d ∧ t.2.1 = 0)) : (X.unbox d).own b = some t := by
  obtain ⟨s, p, u⟩ := t
  simp only [Ctx.unbox, h]
  rw [if_neg hn]

theorem goes_unbox (X : Ctx) (d : Nat) : Goes X (X.unbox d) where
  os := rfl
  tape := rfl
  output := rfl
  size := Nat.le_refl _
  keep := fun _ _ _ => rfl
  va := rfl
  vs := fun _ h => h
  vs' := fun _ h => .inl h
  own' := fun b h => by
    refine .inl fun e => h ?_
    simp [Ctx.unbox, e]

theorem inv_unbox {X : Ctx} (h : Inv X) (d : Nat) : Inv (X.unbox d) where
  own := fun b t h1 => h.own b t (unbox_own h1).1
  one := fun b b' s o base tip base' tip' h1 h2 => h.one _ _ _ _ _ _ _ _ (unbox_own h1).1 (unbox_own h2).1
  vs := h.vs
  va := h.va

theorem cv_unbox {X : Ctx} {d k j : Nat} {v : Value} {c : CV} (h : CVRel X k j v c) : CVRel (X.unbox d) k j v c := by
  cases h with
  | sh f p v h => exact .sh f p v h
  | ow0 f es a => exact .ow0 f es a
  | ow f es rows v blk off cap c elem fr h => exact .ow f es rows v blk off cap c elem fr ⟨h.val, h.le, unbox_keep h.own (by simp), h.cells, h.fits, h.loose, h.reads⟩
  | br0 s o kd lo f es a => exact .br0 s o kd lo f es a
  | br s o kd lo f es rows v blk base tip cap c elem fr h => exact .br s o kd lo f es rows v blk base tip cap c elem fr ⟨h.val, h.le, unbox_keep h.own (by simp), h.cells, h.fits, h.loose, h.tipLe, h.tip1, h.lo0, h.reads⟩
  | brv s o lo f es rows v h => exact .brv s o lo f es rows v h
  | dead v => exact .dead v

theorem cells_unbox {X : Ctx} {d k : Nat} : ∀ {j : Nat} {vs : List Value} {l : List CV}, CellsRel X k j vs l → CellsRel (X.unbox d) k j vs l
  | _, _, _, .nil j => .nil j
  | _, _, _, .cons j v cv vs l h t => .cons j v cv vs l (cv_unbox h) (cells_unbox t)

theorem sv_cut {X : Ctx} {d k : Nat} {v : Value} {sv : SV} (h : SVRel X k v sv) (hk : k ≠ d) : SVRel (X.unbox d) k v (sv.cut d) := by
  cases h with
  | undef v => exact .undef v
  | c sh v vs l hf hc => exact .c sh v vs l hf (cells_unbox hc)
  | box blk base tip c elem fr l ho hb hfr hc => exact .box blk base tip c elem fr l (unbox_keep ho fun h => hk h.1) hb hfr (cells_unbox hc)
  | bp s o blk base tip ho =>
    simp only [SV.cut]
    split
    · exact .undef _
    · rename_i hne; exact .bp s o blk base tip (unbox_keep ho fun h => hne h.1)
  | ep s o kd fl es i f row blk off base tip c elem fr ho he hl hb hfr hr => exact .ep s o kd fl es i f row blk off base tip c elem fr (unbox_keep ho (by simp)) he hl hb hfr hr
  | epv s o fl es i f row blk off c elem fr hv hb hr => exact .epv s o fl es i f row blk off c elem fr hv hb hr
  | sp fl row f blk off c elem fr hv hb hr => exact .sp fl row f blk off c elem fr hv hb hr
  | fn g caps cs hs hc =>
    simp only [SV.cut]
    split
    · exact .undef _
    · rename_i hne
      refine .fn g caps cs hs fun i v s h1 h2 => ?_
      obtain ⟨blk, base, tip, e, ho⟩ := hc i v s h1 h2
      refine ⟨blk, base, tip, e, unbox_keep ho fun h => hne ?_⟩
      have := List.mem_of_getElem? h2
      have e2 : s = d := h.1
      rw [e2] at this
      simpa using this

/-- What clearing a slot comes to. -/
structure Cleared (X X' : Ctx) (vs : List Value) (σ σ' : St) (d : Nat) : Prop where
  goes : Goes X X'
  w : X'.w = X.w
  good : Good X' vs σ' NoE
  free : ∀ p, Free X' d p
  noBox : ∀ b base tip, X'.own b ≠ some (d, 0, base, tip)
  size : σ'.length = σ.length
  noOw : ∀ p, (cellAt σ' d p).isOw = false
  noBx : ∀ l, σ'[d]? ≠ some (.c .box l)

theorem cellAt_of {σ : St} {s p : Nat} {sh : Shape} {l : List CV} (h : σ[s]? = some (.c sh l)) : cellAt σ s p = l.getD p .dead := by
  unfold cellAt
  simp [List.getD_eq_getElem?_getD, h]

theorem cellAt_cut {σ : St} {d : Nat} {s p : Nat} (hs : s ≠ d) : cellAt ((σ.map (SV.cut d)).set d .undef) s p = cellAt σ s p := by
  unfold cellAt
  simp only [List.getD_eq_getElem?_getD]
  rw [List.getElem?_set_ne (Ne.symm hs), List.getElem?_map]
  cases σ[s]? with
  | none => rfl
  | some x =>
    cases x with
    | bp a b => simp only [Option.map_some, Option.getD_some, SV.cut]; by_cases h : a = d <;> simp [h]
    | fn g caps => simp only [Option.map_some, Option.getD_some, SV.cut]; by_cases h : caps.contains d = true <;> simp only [h, if_true, Bool.false_eq_true, if_false]
    | _ => rfl

theorem cellAt_none {σ : St} {s p : Nat} (h : ∀ sh l, σ[s]? ≠ some (.c sh l)) : cellAt σ s p = .dead := by
  unfold cellAt
  simp only [List.getD_eq_getElem?_getD]
  cases e : σ[s]? with
  | none => rfl
  | some x =>
    cases x with
    | c sh l => exact absurd e (h sh l)
    | _ => rfl

theorem demoteAll_shape (s : Nat) : ∀ (n j : Nat) (σ : St) (d : Nat) (sh : Shape), (∃ l, (demoteAll s j n σ)[d]? = some (.c sh l)) ↔ ∃ l, σ[d]? = some (.c sh l)
  | 0, j, σ, d, sh => Iff.rfl
  | n + 1, j, σ, d, sh => by
    simp only [demoteAll]
    rw [demoteAll_shape s n (j + 1) _ d sh]
    split
    · unfold demote
      rw [mapSt_get]
      cases σ[d]? with
      | none => simp
      | some x =>
        cases x with
        | c sh' l => simp [SV.mapC]
        | ep a b _ _ _ _ _ _ => simp only [Option.map_some, SV.mapC]; cases epOff s j a b <;> simp
        | _ => simp [SV.mapC]
    · exact Iff.rfl

theorem clear_good {X : Ctx} {vs : List Value} {σ : St} (h : Good X vs σ NoE) (d : Nat) : ∃ X', Cleared X X' vs σ (clear d σ) d := by
  unfold clear
  split
  · -- a variable
    rename_i l hl
    obtain ⟨X1, k1, h1⟩ := demoteAll_good vs d l.length 0 h
    have hd : ∃ l', (demoteAll d 0 l.length σ)[d]? = some (.c .box l') := (demoteAll_shape d l.length 0 σ d .box).2 ⟨l, by
      rw [List.getD_eq_getElem?_getD] at hl
      cases e : σ[d]? with
      | none => rw [e] at hl; simp at hl
      | some x => rw [e] at hl; simpa using hl⟩
    generalize hτ : demoteAll d 0 l.length σ = τ at *
    have hno : ∀ p, (cellAt τ d p).isOw = false := fun p => by
      by_cases hp : p < l.length
      · exact h1 p (Nat.zero_le _) (by omega)
      · refine k1.noOw d p ?_
        have : σ[d]? = some (.c .box l) := by
          rw [List.getD_eq_getElem?_getD] at hl
          cases e : σ[d]? with
          | none => rw [e] at hl; simp at hl
          | some x => rw [e] at hl; simpa using hl
        rw [cellAt_of this, List.getD_eq_getElem?_getD, List.getElem?_eq_none (by omega)]
        rfl
    refine ⟨X1.unbox d, k1.goes.trans (goes_unbox X1 d), k1.w, ⟨inv_unbox k1.good.inv d, ⟨by simpa using k1.good.frame.1, ?_⟩, ⟨?_, ?_⟩⟩, ?_, ?_, by simpa using k1.size, ?_, ?_⟩
    · intro k v sv hv hs
      by_cases hk : k = d
      · subst hk
        rw [List.getElem?_set_self (by
          have := k1.good.frame.1
          have h2 : k < vs.length := (List.getElem?_eq_some_iff.1 hv).1
          simp; omega)] at hs
        injection hs with hs; subst hs
        exact .undef v
      · rw [List.getElem?_set_ne (Ne.symm hk), List.getElem?_map] at hs
        cases e : τ[k]? with
        | none => simp [e] at hs
        | some x =>
          simp [e] at hs; subst hs
          exact sv_cut (k1.good.frame.2 k v x hv e) hk
    · intro b s p base tip h2
      have h3 := unbox_own h2
      right
      by_cases hs : s = d
      · subst hs
        exact absurd h3.1 (free_of k1.good (hno p) b base tip)
      · rw [cellAt_cut hs]
        exact (k1.good.tags.cell _ _ _ _ _ h3.1).resolve_left id
    · intro b s base tip h2
      have h3 := unbox_own h2
      have hs : s ≠ d := fun e => h3.2 ⟨e, rfl⟩
      obtain ⟨l', h4⟩ := k1.good.tags.box _ _ _ _ h3.1
      exact ⟨l', by rw [List.getElem?_set_ne (Ne.symm hs), List.getElem?_map, h4]; rfl⟩
    · intro p b base tip h2
      exact free_of k1.good (hno p) b base tip (unbox_own h2).1
    · intro b base tip h2
      exact (unbox_own h2).2 ⟨rfl, rfl⟩
    · intro p
      by_cases hlt : d < τ.length
      · unfold cellAt
        rw [List.getD_eq_getElem?_getD, List.getElem?_set_self (by simpa using hlt)]
        rfl
      · rw [cellAt_none]
        · rfl
        · intro sh l e
          rw [List.getElem?_eq_none (by simp; omega)] at e
          simp at e
    · intro l e
      by_cases hlt : d < τ.length
      · rw [List.getElem?_set_self (by simpa using hlt)] at e
        injection e with e; cases e
      · rw [List.getElem?_eq_none (by simp; omega)] at e
        simp at e
  · rename_i sh l hne hl
    obtain ⟨X1, k1, h1⟩ := demoteAll_good vs d l.length 0 h
    have hσ : σ[d]? = some (.c sh l) := by
      rw [List.getD_eq_getElem?_getD] at hl
      cases e : σ[d]? with
      | none => rw [e] at hl; simp at hl
      | some x => rw [e] at hl; simpa using hl
    have hno : ∀ p, (cellAt (demoteAll d 0 l.length σ) d p).isOw = false := fun p => by
      by_cases hp : p < l.length
      · exact h1 p (Nat.zero_le _) (by omega)
      · refine k1.noOw d p ?_
        rw [cellAt_of hσ, List.getD_eq_getElem?_getD, List.getElem?_eq_none (by omega)]
        rfl
    refine ⟨X1, k1.goes, k1.w, k1.good, fun p => free_of k1.good (hno p), ?_, k1.size, hno, ?_⟩
    case refine_2 =>
      intro l' h3
      obtain ⟨l'', h4⟩ := (demoteAll_shape d l.length 0 σ d .box).1 ⟨l', h3⟩
      rw [hσ] at h4
      injection h4 with h4; injection h4 with h4 _
      subst h4
      exact hne rfl
    intro b base tip h2
    obtain ⟨l', h3⟩ := k1.good.tags.box _ _ _ _ h2
    obtain ⟨l'', h4⟩ := (demoteAll_shape d l.length 0 σ d .box).1 ⟨l', h3⟩
    rw [hσ] at h4
    injection h4 with h4; injection h4 with h4 _
    subst h4
    exact hne rfl
  · rename_i hne1 hne2
    have hn : ∀ sh l, σ[d]? ≠ some (.c sh l) := fun sh l e => by
      refine hne2 sh l ?_
      simp [List.getD_eq_getElem?_getD, e]
    refine ⟨X, .refl X, rfl, h, fun p => free_of h (by rw [cellAt_none hn]; rfl), ?_, rfl, fun p => by rw [cellAt_none hn]; rfl, fun l => hn .box l⟩
    intro b base tip h2
    obtain ⟨l', h3⟩ := h.tags.box _ _ _ _ h2
    exact hn _ _ h3

def svCell (sv : SV) (p : Nat) : CV :=
  match sv with
  | .c _ l => l.getD p .dead
  | _ => .dead

/-- A cleared slot is written anew. -/
theorem good_set {X X' : Ctx} {vs : List Value} {σ : St} {d : Nat} {v : Value} {sv : SV} {E : Nat → Nat → Prop} (h : Good X vs σ E) (hE : ∀ a b, E a b → a = d) (hm : Mono X X') (hi : Inv X') (hd : d < σ.length)
    (hnew : ∀ b t, X'.own b = some t → X.own b = some t ∨ t.1 = d) (hnb : ∀ b base tip, X.own b ≠ some (d, 0, base, tip))
    (hv : SVRel X' d v sv) (ht : ∀ b p base tip, X'.own b = some (d, p + 1, base, tip) → (svCell sv p).isOw = true) (hb : ∀ b base tip, X'.own b = some (d, 0, base, tip) → ∃ l, sv = .c .box l) :
    Good X' (vs.set d v) (σ.set d sv) NoE where
  inv := hi
  frame := ⟨by simpa using h.frame.1, fun k x y hx hy => by
    by_cases hk : k = d
    · subst hk
      rw [List.getElem?_set_self (by rw [h.frame.1]; exact hd)] at hx
      rw [List.getElem?_set_self hd] at hy
      injection hx with hx; injection hy with hy
      subst hx; subst hy
      exact hv
    · rw [List.getElem?_set_ne (Ne.symm hk)] at hx hy
      exact (h.frame.2 k x y hx hy).mono hm⟩
  tags := ⟨fun b s p base tip h1 => by
    right
    by_cases hs : s = d
    · subst hs
      have := ht b p base tip h1
      unfold cellAt
      rw [List.getD_eq_getElem?_getD, List.getElem?_set_self hd]
      exact this
    · rcases hnew b _ h1 with h2 | h2
      · have h3 := (h.tags.cell _ _ _ _ _ h2).resolve_left fun e => hs (hE _ _ e)
        unfold cellAt at h3 ⊢
        rw [List.getD_eq_getElem?_getD] at h3 ⊢
        rw [List.getElem?_set_ne (Ne.symm hs)]
        exact h3
      · exact absurd h2 hs,
   fun b s base tip h1 => by
    by_cases hs : s = d
    · subst hs
      obtain ⟨l, rfl⟩ := hb b base tip h1
      exact ⟨l, List.getElem?_set_self hd⟩
    · rcases hnew b _ h1 with h2 | h2
      · obtain ⟨l, h3⟩ := h.tags.box _ _ _ _ h2
        exact ⟨l, by rw [List.getElem?_set_ne (Ne.symm hs)]; exact h3⟩
      · exact absurd h2 hs⟩

end Go.Proofs.Ytlbigobmhglppaa.R
