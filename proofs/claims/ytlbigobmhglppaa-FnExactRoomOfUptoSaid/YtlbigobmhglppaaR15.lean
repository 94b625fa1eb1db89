/- A call: what the called function has of its caller, and what the caller has behind it. -/
import Derived.Test.YtlbigobmhglppaaR14
set_option linter.unusedVariables false
set_option linter.unusedSimpArgs false
namespace Go.Proofs.Ytlbigobmhglppaa.R
open Go

/-- Where s lies in the list. -/
def posOf : List Nat → Nat → Option Nat
  | [], _ => none
  | x :: l, s => if x = s then some 0 else (posOf l s).map (· + 1)

theorem posOf_get : ∀ {gs : List Nat} {s g : Nat}, posOf gs s = some g → gs[g]? = some s
  | [], s, g, h => by simp [posOf] at h
  | x :: l, s, g, h => by
    simp only [posOf] at h
    split at h
    · rename_i e; injection h with h; subst h; subst e; rfl
    · obtain ⟨g', h1, rfl⟩ := some_map h
      simpa using posOf_get h1
theorem posOf_none : ∀ {gs : List Nat} {s : Nat}, gs.contains s = false → posOf gs s = none
  | [], s, h => rfl
  | x :: l, s, h => by
    simp only [List.contains_cons, Bool.or_eq_false_iff] at h
    simp only [posOf]
    rw [if_neg (by intro e; subst e; simp at h), posOf_none h.2]
    rfl
theorem posOf_some : ∀ {gs : List Nat} {s : Nat}, gs.contains s = true → ∃ g, posOf gs s = some g
  | [], s, h => by simp at h
  | x :: l, s, h => by
    simp only [posOf]
    by_cases e : x = s
    · rw [if_pos e]; exact ⟨0, rfl⟩
    · rw [if_neg e]
      have : l.contains s = true := by
        simp only [List.contains_cons, Bool.or_eq_true] at h
        rcases h with h | h
        · simp at h; exact absurd h.symm e
        · exact h
      obtain ⟨g, hg⟩ := posOf_some this
      exact ⟨g + 1, by simp [hg]⟩
theorem posOf_at : ∀ {gs : List Nat} {s g : Nat}, nodupB gs = true → gs[g]? = some s → posOf gs s = some g
  | [], s, g, hn, h => by simp at h
  | x :: l, s, g, hn, h => by
    simp only [nodupB, Bool.and_eq_true, Bool.not_eq_true'] at hn
    simp only [posOf]
    cases g with
    | zero => simp at h; subst h; simp
    | succ g =>
      simp at h
      have hm : l.contains s = true := by simpa using List.mem_of_getElem? h
      rw [if_neg (by intro e; subst e; rw [hm] at hn; simp at hn), posOf_at hn.2 h]
      rfl
theorem get_contains {gs : List Nat} {s g : Nat} (h : gs[g]? = some s) : gs.contains s = true := by simpa using List.mem_of_getElem? h

theorem boxAt_some {σ : St} {s : Nat} {l : List CV} (h : boxAt σ s = some l) : σ[s]? = some (.c .box l) := by
  unfold boxAt at h
  rw [List.getD_eq_getElem?_getD] at h
  split at h
  · rename_i l' e
    injection h with h; subst h
    cases e1 : σ[s]? with
    | none => rw [e1] at e; simp at e
    | some x => rw [e1] at e; simpa using e
  · simp at h
theorem boxesAt_get {σ : St} : ∀ {gs : List Nat} {bs : List (List CV)}, boxesAt σ gs = some bs → bs.length = gs.length ∧ ∀ (g : Nat) (s : Nat) (b : List CV), gs[g]? = some s → bs[g]? = some b → σ[s]? = some (.c .box b)
  | [], bs, h => by simp [boxesAt] at h; subst h; exact ⟨rfl, fun g s b h1 => by simp at h1⟩
  | s :: l, bs, h => by
    simp only [boxesAt] at h
    obtain ⟨b, h1, h⟩ := some_bind h
    obtain ⟨m, h2, h⟩ := some_map h
    subst h
    obtain ⟨h3, h4⟩ := boxesAt_get h2
    refine ⟨by simp [h3], fun g s' b' hg hb => ?_⟩
    cases g with
    | zero => simp at hg hb; subst hg; subst hb; exact boxAt_some h1
    | succ g => exact h4 g s' b' (by simpa using hg) (by simpa using hb)

/-- The blocks that are lent. -/
def lentB (X : Ctx) (lent : List (Nat × Nat)) (b : Nat) : Prop := ∃ s o base tip, (s, o) ∈ lent ∧ X.own b = some (s, o + 1, base, tip)

def Ctx.callee (X : Ctx) (gs : List Nat) (lent : List (Nat × Nat)) (fl : Bool) (N : Nat) : Ctx :=
  { w := X.w
    own := fun b => match X.own b with
      | some (s, p, t) => (posOf gs s).map fun g => (N + g, p, t)
      | none => none
    va := fun b => lentB X lent b ∨ (fl = true ∧ X.va b)
    vs := X.vs }

theorem callee_own {X : Ctx} {gs : List Nat} {lent : List (Nat × Nat)} {fl : Bool} {N b : Nat} {t : Own} (h : (X.callee gs lent fl N).own b = some t) :
    ∃ s p u g, X.own b = some (s, p, u) ∧ posOf gs s = some g ∧ t = (N + g, p, u) := by
  simp only [Ctx.callee] at h
  cases e : X.own b with
  | none => simp [e] at h
  | some x =>
    obtain ⟨s, p, u⟩ := x
    simp only [e] at h
    obtain ⟨g, h1, h2⟩ := some_map h
    exact ⟨s, p, u, g, rfl, h1, h2.symm⟩
theorem callee_own_none {X : Ctx} {gs : List Nat} {lent : List (Nat × Nat)} {fl : Bool} {N b : Nat} (h : ∀ s p u, X.own b = some (s, p, u) → gs.contains s = false) : (X.callee gs lent fl N).own b = none := by
  cases e : (X.callee gs lent fl N).own b with
  | none => rfl
  | some t =>
    obtain ⟨s, p, u, g, h1, h2, _⟩ := callee_own e
    have := h s p u h1
    rw [get_contains (posOf_get h2)] at this
    simp at this
theorem callee_own_some {X : Ctx} {gs : List Nat} {lent : List (Nat × Nat)} {fl : Bool} {N b s p g : Nat} {u : Nat × Nat} (h : X.own b = some (s, p, u)) (hg : posOf gs s = some g) : (X.callee gs lent fl N).own b = some (N + g, p, u) := by
  simp [Ctx.callee, h, hg]

theorem callee_inv {X : Ctx} (hi : Inv X) {gs : List Nat} {lent : List (Nat × Nat)} (fl : Bool) (N : Nat) (hl : lent.all (fun x => !gs.contains x.1) = true) : Inv (X.callee gs lent fl N) where
  own := fun b t h => by
    obtain ⟨s, p, u, g, h1, h2, _⟩ := callee_own h
    have := hi.own b _ h1
    refine ⟨this.1, this.2.1, ?_⟩
    rintro (⟨s', o', base, tip, h3, h4⟩ | ⟨_, h3⟩)
    · rw [h1] at h4
      injection h4 with h4; injection h4 with h4 _
      subst h4
      have h5 := List.all_eq_true.1 hl _ h3
      simp only [get_contains (posOf_get h2)] at h5
      simp at h5
    · exact this.2.2 h3
  one := fun b b' s o base tip base' tip' h h' => by
    obtain ⟨s1, p1, u1, g1, h1, h2, e1⟩ := callee_own h
    obtain ⟨s2, p2, u2, g2, h3, h4, e2⟩ := callee_own h'
    injection e1 with e1 e3; injection e3 with e3 _
    injection e2 with e2 e4; injection e4 with e4 _
    have hg : g1 = g2 := by omega
    subst hg
    have := (posOf_get h2).symm.trans (posOf_get h4)
    injection this with this
    subst this
    have : p1 = p2 := e3.symm.trans e4
    subst this
    obtain ⟨a1, a2⟩ := u1; obtain ⟨a3, a4⟩ := u2
    exact hi.one _ _ _ _ _ _ _ _ h1 h3
  vs := hi.vs
  va := fun b h => by
    rcases h with ⟨s, o, base, tip, _, h⟩ | ⟨_, h⟩
    · exact (hi.own b _ h).1
    · exact hi.va b h

/-- What reads in the caller reads in the called function, if the flag says so. -/
theorem callee_V {X : Ctx} {gs : List Nat} {lent : List (Nat × Nat)} {fl : Bool} {N : Nat} {f : Bool} (hf : f = true → fl = true) (b : Nat) (h : X.V f b) : (X.callee gs lent fl N).V f b := by
  rcases h with h | ⟨h1, h⟩
  · exact .inl h
  · exact .inr ⟨h1, .inr ⟨hf h1, h⟩⟩

theorem callee_rd {X : Ctx} {gs : List Nat} {lent : List (Nat × Nat)} {fl : Bool} {N : Nat} {f : Bool} {v : Value} {p : PV} (hf : (!p.scalar && f) = true → fl = true) (h : Rd X.w.heap (X.V f) v p) : Rd X.w.heap ((X.callee gs lent fl N).V f) v p := by
  cases hs : p.scalar with
  | true => exact h.scalar hs
  | false => exact h.mono fun b hb => ⟨callee_V (fun e => hf (by simp [hs, e])) b hb, rfl⟩

theorem flag_any {c : CV} {l : List CV} (hc : c ∈ l) {fl : Bool} (h : (l.any CV.flag = true → fl = true)) (hf : c.flag = true) : fl = true := h (List.any_eq_true.2 ⟨c, hc, hf⟩)

/-- The cells of a variable that is handed on. -/
theorem callee_cell {X : Ctx} {gs : List Nat} {lent : List (Nat × Nat)} {fl : Bool} {N s g j : Nat} (hg : posOf gs s = some g) {v : Value} {c : CV} (hb : noBr c = true) (hf : c.flag = true → fl = true) (h : CVRel X s j v c) : CVRel (X.callee gs lent fl N) (N + g) j v c := by
  cases h with
  | sh f p v h => exact .sh f p v (callee_rd (by simpa [CV.flag] using hf) h)
  | ow0 f es a => exact .ow0 f es a
  | ow f es rows v blk off cap c elem fr h =>
    exact .ow f es rows v blk off cap c elem fr ⟨h.val, h.le, callee_own_some h.own hg, h.cells, h.fits, h.loose, h.reads.mono fun b hb => ⟨callee_V (by simpa [CV.flag] using hf) b hb, rfl⟩⟩
  | br0 => simp [noBr] at hb
  | br => simp [noBr] at hb
  | brv => simp [noBr] at hb
  | dead v => exact .dead v

theorem callee_cells {X : Ctx} {gs : List Nat} {lent : List (Nat × Nat)} {fl : Bool} {N s g : Nat} (hg : posOf gs s = some g) : ∀ {j : Nat} {vs : List Value} {l : List CV}, l.all noBr = true → (l.any CV.flag = true → fl = true) →
    CellsRel X s j vs l → CellsRel (X.callee gs lent fl N) (N + g) j vs l
  | j, [], [], hb, hf, .nil _ => .nil j
  | j, v :: vs, cv :: l, hb, hf, .cons _ _ _ _ _ h t => by
    simp only [List.all_cons, Bool.and_eq_true] at hb
    exact .cons j v cv vs l (callee_cell hg hb.1 (fun e => hf (by simp [e])) h) (callee_cells hg hb.2 (fun e => hf (by simp only [List.any_cons, e, Bool.or_true])) t)

theorem lendC_rel {X : Ctx} {gs : List Nat} {lent : List (Nat × Nat)} {fl : Bool} {N : Nat} {v : Value} {c c' : CV} {l : List (Nat × Nat)} {f : Bool} (h : ∀ k j, CVRel X k j v c) (e : lendC c = some (c', l, f)) (hl : ∀ x ∈ l, x ∈ lent) (hf : f = true → fl = true) :
    ∀ k j, CVRel (X.callee gs lent fl N) k j v c' := by
  intro k j
  unfold lendC at e
  split at e
  · rename_i f0 p
    injection e with e; injection e with e1 e; injection e with e2 e3; subst e1; subst e2; subst e3
    have := h 0 0
    cases this with
    | sh _ _ _ h =>
      refine .sh _ p v ?_
      cases hs : p.scalar with
      | true => exact h.scalar hs
      | false =>
        refine h.mono fun b hb => ⟨?_, rfl⟩
        rcases hb with hb | ⟨h1, hb⟩
        · exact .inl hb
        · exact .inr ⟨rfl, .inr ⟨hf (by simp [hs, h1]), hb⟩⟩
  · rename_i f0 es
    injection e with e; injection e with e1 e; injection e with e2 e3; subst e1; subst e2; subst e3
    obtain ⟨_, a, rfl⟩ := no_ow fun k => h k 0
    exact .sh true _ _ (.s0 a 0 es)
  · rename_i s o kd lo f0 es rows
    injection e with e; injection e with e1 e; injection e with e2 e3; subst e1; subst e2; subst e3
    have := h 0 0
    refine .sh true _ v ?_
    cases this with
    | br0 _ _ _ _ _ _ a => exact .s0 a 0 es
    | br _ _ _ _ _ _ _ _ blk base tip cap cc elem fr hb =>
      rw [hb.val]
      refine .s blk _ _ cap es cc elem fr rows (.inr ⟨rfl, .inl ⟨s, o, base, tip, hl _ (by simp), hb.own⟩⟩) hb.cells rfl hb.le (hb.reads.mono fun b hb => ⟨?_, rfl⟩)
      rcases hb with hb | ⟨h1, hb⟩
      · exact .inl hb
      · exact .inr ⟨rfl, .inr ⟨hf h1, hb⟩⟩
    | brv _ _ _ _ _ _ _ hb =>
      refine hb.mono fun b hb => ⟨?_, rfl⟩
      rcases hb with hb | ⟨h1, hb⟩
      · exact .inl hb
      · exact .inr ⟨rfl, .inr ⟨hf h1, hb⟩⟩
  · simp at e

theorem lendAll_rel {X : Ctx} {gs : List Nat} {lent : List (Nat × Nat)} {fl : Bool} {N : Nat} : ∀ {vs : List Value} {cs cs' : List CV} {l : List (Nat × Nat)} {f : Bool}, VCells X vs cs → lendAll cs = some (cs', l, f) → (∀ x ∈ l, x ∈ lent) → (f = true → fl = true) →
    VCells (X.callee gs lent fl N) vs cs'
  | _, _, cs', l, f, .nil, e, hl, hf => by
    simp only [lendAll] at e
    injection e with e; injection e with e1 e; subst e1
    exact .nil
  | _, _, cs', l, f, .cons v c vs cs h t, e, hl, hf => by
    simp only [lendAll] at e
    obtain ⟨⟨c1, l1, f1⟩, e1, e⟩ := some_bind e
    obtain ⟨⟨c2, l2, f2⟩, e2, e⟩ := some_map e
    injection e with e3 e; injection e with e4 e5; subst e3; subst e4; subst e5
    exact .cons v c1 vs c2 (lendC_rel h e1 (fun x hx => hl x (by simp [hx])) (fun e => hf (by simp [e]))) (lendAll_rel t e2 (fun x hx => hl x (by simp [hx])) (fun e => hf (by simp [e])))

theorem range'_get {k n i x : Nat} (h : (List.range' k n)[i]? = some x) : x = k + i ∧ i < n := by
  rw [List.getElem?_eq_some_iff] at h
  obtain ⟨h1, h2⟩ := h
  rw [List.getElem_range'] at h2
  simp at h1
  exact ⟨by omega, h1⟩

/-- The arguments, as the called function has them. gs: all variables that are handed on; those of these arguments lie from place k on. -/
theorem lendArgs_rel {X : Ctx} {gs : List Nat} {lent : List (Nat × Nat)} {fl : Bool} {N : Nat} (hn : nodupB gs = true) : ∀ {vs : List Value} {xs xs' : List SV} {k : Nat} {l : List (Nat × Nat)} {f : Bool}, OSVs X vs xs → lendArgs k xs = some (xs', l, f) →
    (∀ i s, (xs.flatMap ghostsOf)[i]? = some s → gs[k + i]? = some s) → (∀ x ∈ l, x ∈ lent) → (f = true → fl = true) →
    OSVs (X.callee gs lent fl N) vs (xs'.map (shiftSV N))
  | _, _, xs', k, l, f, .nil, e, hk, hl, hf => by
    simp only [lendArgs] at e
    injection e with e; injection e with e1 e; subst e1
    exact .nil
  | _, _, xs', k, l, f, .cons v x vs xs h t, e, hk, hl, hf => by
    unfold lendArgs at e
    split at e
    · rename_i e0; cases e0
    · rename_i k0 cs l0 e0
      injection e0 with e0 e0'; subst e0; subst e0'
      obtain ⟨⟨c1, l1, f1⟩, e1, e⟩ := some_bind e
      obtain ⟨⟨c2, l2, f2⟩, e2, e⟩ := some_map e
      injection e with e3 e; injection e with e4 e5; subst e3; subst e4; subst e5
      obtain ⟨us, hfl, hc⟩ := osv_cells h (by simp)
      exact .cons v _ vs _ (osv_mk hfl (lendAll_rel hc e1 (fun x hx => hl x (by simp [hx])) (fun e => hf (by simp [e])))) (lendArgs_rel hn t e2 (fun i s hi => hk i s (by simpa [ghostsOf] using hi)) (fun x hx => hl x (by simp [hx])) (fun e => hf (by simp [e])))
    · rename_i k0 cs l0 e0
      injection e0 with e0 e0'; subst e0; subst e0'
      obtain ⟨⟨c1, l1, f1⟩, e1, e⟩ := some_bind e
      obtain ⟨⟨c2, l2, f2⟩, e2, e⟩ := some_map e
      injection e with e3 e; injection e with e4 e5; subst e3; subst e4; subst e5
      obtain ⟨us, hfl, hc⟩ := osv_cells h (by simp)
      exact .cons v _ vs _ (osv_mk hfl (lendAll_rel hc e1 (fun x hx => hl x (by simp [hx])) (fun e => hf (by simp [e])))) (lendArgs_rel hn t e2 (fun i s hi => hk i s (by simpa [ghostsOf] using hi)) (fun x hx => hl x (by simp [hx])) (fun e => hf (by simp [e])))
    · rename_i k0 s l0 e0
      injection e0 with e0 e0'; subst e0; subst e0'
      obtain ⟨⟨c2, l2, f2⟩, e2, e⟩ := some_map e
      injection e with e3 e; injection e with e4 e5; subst e3; subst e4; subst e5
      refine .cons v _ vs _ (fun j => ?_) (lendArgs_rel hn t e2 (fun i s hi => by
        have := hk (i + 1) s (by simpa [ghostsOf] using hi)
        rw [← this]; congr 1; omega) hl hf)
      have h0 := h 0
      have hp := posOf_at hn (hk 0 s (by simp [ghostsOf]))
      cases h0 with
      | bp _ _ blk base tip ho => exact .bp _ 0 blk base tip (callee_own_some ho hp)
    · rename_i k0 g caps l0 e0
      injection e0 with e0 e0'; subst e0; subst e0'
      obtain ⟨⟨c2, l2, f2⟩, e2, e⟩ := some_map e
      injection e with e3 e; injection e with e4 e5; subst e3; subst e4; subst e5
      refine .cons v _ vs _ (fun j => ?_) (lendArgs_rel hn t e2 (fun i s hi => by
        have := hk (caps.length + i) s (by
          simp only [List.flatMap_cons, ghostsOf]
          rw [List.getElem?_append_right (by omega)]
          simpa using hi)
        rw [← this]; congr 1; omega) hl hf)
      have h0 := h 0
      cases h0 with
      | fn _ _ cs hs hc =>
        refine .fn g _ cs (by simp [hs]) fun i v s h1 h2 => ?_
        simp only [List.getElem?_map] at h2
        obtain ⟨x, h3, h4⟩ := some_map h2
        obtain ⟨h5, h6⟩ := range'_get h3
        subst h5; subst h4
        have h7 : caps[i]? = some (caps[i]'h6) := List.getElem?_eq_getElem h6
        obtain ⟨blk, base, tip, e1, ho⟩ := hc i v _ h1 h7
        have hp := posOf_at hn (hk i _ (by
          simp only [List.flatMap_cons, ghostsOf]
          rw [List.getElem?_append_left h6]
          exact h7))
        exact ⟨blk, base, tip, e1, callee_own_some ho hp⟩
    · simp at e

end Go.Proofs.Ytlbigobmhglppaa.R
