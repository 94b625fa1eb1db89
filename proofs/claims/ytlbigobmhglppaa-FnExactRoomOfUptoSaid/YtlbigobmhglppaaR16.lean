/- A call: the called function's frame; what the caller has behind it. -/
import Derived.Test.YtlbigobmhglppaaR15
set_option linter.unusedVariables false
set_option linter.unusedSimpArgs false
namespace Go.Proofs.Ytlbigobmhglppaa.R
open Go

theorem OSVs.length {X : Ctx} : ∀ {vs : List Value} {xs : List SV}, OSVs X vs xs → vs.length = xs.length
  | _, _, .nil => rfl
  | _, _, .cons v x vs xs h t => by simp [OSVs.length t]
theorem OSVs.get {X : Ctx} : ∀ {vs : List Value} {xs : List SV}, OSVs X vs xs → ∀ (i : Nat) (v : Value) (x : SV), vs[i]? = some v → xs[i]? = some x → OSV X v x
  | _, _, .nil, i, v, x, h1, h2 => by simp at h1
  | _, _, .cons v x vs xs h t, 0, _, _, h1, h2 => by simp at h1 h2; subst h1; subst h2; exact h
  | _, _, .cons v x vs xs h t, i + 1, _, _, h1, h2 => OSVs.get t i _ _ (by simpa using h1) (by simpa using h2)

/-- The values of the variables that are handed on. -/
def gvals (vs : List Value) (gs : List Nat) : List Value := gs.map fun s => vs.getD s undef

theorem callee_good {X : Ctx} {vs : List Value} {σ : St} (hg : Good X vs σ NoE) {gs : List Nat} {bs : List (List CV)} (hn : nodupB gs = true) (hb : boxesAt σ gs = some bs) (hbr : bs.all (·.all noBr) = true) {lent : List (Nat × Nat)} (hl : lent.all (fun x => !gs.contains x.1) = true)
    {fl : Bool} (hfl : bs.any (·.any CV.flag) = true → fl = true) {N : Nat} {argv : List Value} {args : List SV} (ha : OSVs (X.callee gs lent fl N) argv args) (hN : args.length ≤ N) :
    Good (X.callee gs lent fl N) (argv ++ List.replicate (N - args.length) undef ++ gvals vs gs) (args ++ List.replicate (N - args.length) .undef ++ bs.map (.c .box)) NoE := by
  obtain ⟨h1, h2⟩ := boxesAt_get hb
  have hal := ha.length
  refine ⟨callee_inv hg.inv fl N hl, ⟨by simp [gvals, h1, hal], ?_⟩, ?_, ?_⟩
  · intro k v sv hv hs
    by_cases hk : k < args.length
    · rw [List.getElem?_append_left (by simp; omega), List.getElem?_append_left (by omega)] at hv hs
      exact ha.get k v sv hv hs k
    · by_cases hk2 : k < N
      · rw [List.getElem?_append_left (by simp; omega), List.getElem?_append_right (by omega)] at hs
        rw [List.getElem?_replicate] at hs
        split at hs
        · injection hs with hs; subst hs; exact .undef v
        · simp at hs
      · rw [List.getElem?_append_right (by simp; omega)] at hv hs
        simp only [List.length_append, List.length_replicate] at hv hs
        have e1 : k - (argv.length + (N - args.length)) = k - N := by omega
        have e2 : k - (args.length + (N - args.length)) = k - N := by omega
        rw [e1] at hv; rw [e2] at hs
        simp only [List.getElem?_map, gvals] at hv hs
        obtain ⟨s, hs1, hs2⟩ := some_map hv
        obtain ⟨b, hb1, hb2⟩ := some_map hs
        subst hb2
        have hσ := h2 _ _ _ hs1 hb1
        have hlt : s < σ.length := by
          rw [List.getElem?_eq_some_iff] at hσ; exact hσ.1
        have hvv : vs[s]? = some v := by
          rw [← hs2]
          rw [List.getElem?_eq_getElem (by rw [hg.frame.1]; exact hlt)]
          simp [List.getD_eq_getElem?_getD, List.getElem?_eq_getElem (show s < vs.length by rw [hg.frame.1]; exact hlt)]
        have := hg.frame.2 s v _ hvv hσ
        have hp := posOf_at hn hs1
        cases this with
        | c _ _ _ _ hf _ => cases hf
        | box blk base tip c elem fr l ho hbk hfr hc =>
          have hk3 : N + (k - N) = k := by omega
          rw [← hk3]
          refine .box blk base tip c elem fr b (callee_own_some ho hp) hbk hfr (callee_cells hp ?_ ?_ hc)
          · exact List.all_eq_true.1 hbr b (List.mem_of_getElem? hb1)
          · exact fun e => hfl (List.any_eq_true.2 ⟨b, List.mem_of_getElem? hb1, e⟩)
  · intro b s p base tip ho
    right
    obtain ⟨s', p', u, g, e1, e2, e3⟩ := callee_own ho
    injection e3 with e3 e4; injection e4 with e4 e5
    subst e3; subst e4
    have h3 := (hg.tags.cell b s' p u.1 u.2 e1).resolve_left id
    have hgs := posOf_get e2
    have hlt : g < gs.length := by rw [List.getElem?_eq_some_iff] at hgs; exact hgs.1
    obtain ⟨bb, hbb⟩ : ∃ bb, bs[g]? = some bb := ⟨_, List.getElem?_eq_getElem (by omega)⟩
    have hσ := h2 _ _ _ hgs hbb
    rw [cellAt_of hσ] at h3
    have : (args ++ List.replicate (N - args.length) SV.undef ++ bs.map (SV.c .box))[N + g]? = some (.c .box bb) := by
      rw [List.getElem?_append_right (by simp; omega)]
      simp only [List.length_append, List.length_replicate]
      rw [show N + g - (args.length + (N - args.length)) = g from by omega]
      simp [hbb]
    rw [cellAt_of this]
    exact h3
  · intro b s base tip ho
    obtain ⟨s', p', u, g, e1, e2, e3⟩ := callee_own ho
    injection e3 with e3 e4; injection e4 with e4 e5
    subst e3; subst e4
    have hgs := posOf_get e2
    have hlt : g < gs.length := by rw [List.getElem?_eq_some_iff] at hgs; exact hgs.1
    obtain ⟨bb, hbb⟩ : ∃ bb, bs[g]? = some bb := ⟨_, List.getElem?_eq_getElem (by omega)⟩
    refine ⟨bb, ?_⟩
    rw [List.getElem?_append_right (by simp; omega)]
    simp only [List.length_append, List.length_replicate]
    rw [show N + g - (args.length + (N - args.length)) = g from by omega]
    simp [hbb]

/-- A call of function g comes to an answer. -/
def Lands (P : Program) (g : FuncId) (args : Array Value) (w : World) (R : Value → World → Prop) : Prop :=
  match (callFunc g args).run P w with
  | .ok (.value v) w' => R v w'
  | .ok (.enter f as) w' => Calls P f as w' fun
    | .returned v, w'' => R v w''
    | _, _ => False
  | .ok (.row row as) w' => Rows P row as w' R
  | _ => False

/-- What a call promises. -/
def CallOk (P : Program) (call : CallF) : Prop := ∀ g args bs r, call g args bs = some r → ∃ N, args.length ≤ N ∧
  ∀ (X : Ctx) (argv gv : List Value), argv.length = args.length → Good X (argv ++ List.replicate (N - args.length) undef ++ gv) (args.map (shiftSV N) ++ List.replicate (N - args.length) .undef ++ bs.map (.c .box)) NoE →
    Lands P g argv.toArray X.w fun v w' => ∃ X', X'.w = w' ∧ Goes X X' ∧ Good X' (v :: gv) (r.res :: r.boxes.map (.c .box)) NoE

/-- The caller behind the call. d: the slot of the answer. -/
def Ctx.back (X X' : Ctx) (gs : List Nat) (lent : List (Nat × Nat)) (any : Bool) (d : Option Nat) : Ctx :=
  { w := X'.w
    own := fun b => match X'.own b with
      | some (0, p, t) => d.map fun d => (d, p, t)
      | some (k + 1, p, t) => (gs[k]?).map fun s => (s, p, t)
      | none => match X.own b with
        | some (s, p, t) => if gs.contains s = true ∨ (any = true ∧ p ≠ 0 ∧ lent.contains (s, p - 1) = true) then none else some (s, p, t)
        | none => none
    va := X.va
    vs := fun b => X'.vs b ∨ (any = true ∧ lentB X lent b) }

section
variable {X X' : Ctx} {gs : List Nat} {lent : List (Nat × Nat)} {fl any : Bool} {N : Nat} {d : Option Nat}

theorem back_cases {b : Nat} {t : Own} (h : (X.back X' gs lent any d).own b = some t) :
    (∃ p u d', X'.own b = some (0, p, u) ∧ d = some d' ∧ t = (d', p, u)) ∨ (∃ k s p u, X'.own b = some (k + 1, p, u) ∧ gs[k]? = some s ∧ t = (s, p, u)) ∨
    (∃ s p u, X'.own b = none ∧ X.own b = some (s, p, u) ∧ gs.contains s = false ∧ ¬(any = true ∧ p ≠ 0 ∧ lent.contains (s, p - 1) = true) ∧ t = (s, p, u)) := by
  simp only [Ctx.back] at h
  cases e : X'.own b with
  | some x =>
    obtain ⟨k, p, u⟩ := x
    cases k with
    | zero =>
      simp only [e] at h
      obtain ⟨d', h1, h2⟩ := some_map h
      exact .inl ⟨p, u, d', rfl, h1, h2.symm⟩
    | succ k =>
      simp only [e] at h
      obtain ⟨s, h1, h2⟩ := some_map h
      exact .inr (.inl ⟨k, s, p, u, rfl, h1, h2.symm⟩)
  | none =>
    simp only [e] at h
    cases e2 : X.own b with
    | none => simp [e2] at h
    | some x =>
      obtain ⟨s, p, u⟩ := x
      simp only [e2] at h
      split at h
      · simp at h
      · rename_i hc
        injection h with h
        refine .inr (.inr ⟨s, p, u, rfl, rfl, ?_, fun hh => hc (.inr hh), h.symm⟩)
        cases hcc : gs.contains s with
        | false => rfl
        | true => exact absurd (.inl hcc) hc

theorem back_res {b p : Nat} {u : Nat × Nat} {d' : Nat} (h : X'.own b = some (0, p, u)) : (X.back X' gs lent any (some d')).own b = some (d', p, u) := by
  simp [Ctx.back, h]
theorem back_box {b k s p : Nat} {u : Nat × Nat} (h : X'.own b = some (k + 1, p, u)) (hs : gs[k]? = some s) : (X.back X' gs lent any d).own b = some (s, p, u) := by
  simp [Ctx.back, h, hs]

theorem callee_out {hi : Inv X} (G : Goes (X.callee gs lent fl N) X') {b : Nat} (hb : b < X.w.heap.size) (h : ∀ s p u, X.own b = some (s, p, u) → gs.contains s = false) : X'.own b = none ∧ X'.w.heap[b]? = X.w.heap[b]? := by
  have h1 := callee_own_none (gs := gs) (lent := lent) (fl := fl) (N := N) h
  refine ⟨?_, G.keep b hb h1⟩
  cases e : X'.own b with
  | none => rfl
  | some t =>
    rcases G.own' b (by simp [e]) with h2 | h2
    · exact absurd h1 h2
    · have : X.w.heap.size ≤ b := h2
      omega

theorem back_keep (hi : Inv X) (G : Goes (X.callee gs lent fl N) X') {b s p : Nat} {u : Nat × Nat} (h : X.own b = some (s, p, u)) (hs : gs.contains s = false) (hl : ¬(any = true ∧ p ≠ 0 ∧ lent.contains (s, p - 1) = true)) :
    (X.back X' gs lent any d).own b = some (s, p, u) ∧ X'.w.heap[b]? = X.w.heap[b]? := by
  obtain ⟨h1, h2⟩ := callee_out (hi := hi) G (hi.own b _ h).1 (fun s' p' u' e => by rw [h] at e; injection e with e; injection e with e _; subst e; exact hs)
  refine ⟨?_, h2⟩
  simp only [Ctx.back, h1, h]
  rw [if_neg]
  rintro (h3 | h3)
  · rw [hs] at h3; simp at h3
  · exact hl h3

theorem V_own_none (hi : Inv X) {f : Bool} {b : Nat} (h : X.V f b) : X.own b = none ∧ b < X.w.heap.size := by
  refine ⟨?_, ?_⟩
  · cases e : X.own b with
    | none => rfl
    | some t => rcases h with h | ⟨_, h⟩
                · exact absurd h (hi.own b t e).2.1
                · exact absurd h (hi.own b t e).2.2
  · rcases h with h | ⟨_, h⟩
    · exact hi.vs b h
    · exact hi.va b h

theorem back_V (hi : Inv X) (G : Goes (X.callee gs lent fl N) X') (f : Bool) (b : Nat) (h : X.V f b) : (X.back X' gs lent any d).V f b ∧ X'.w.heap[b]? = X.w.heap[b]? := by
  obtain ⟨h1, h2⟩ := V_own_none hi h
  refine ⟨?_, (callee_out (hi := hi) G h2 (fun s p u e => by rw [h1] at e; simp at e)).2⟩
  rcases h with h | ⟨e, h⟩
  · exact .inl (.inl (G.vs b h))
  · exact .inr ⟨e, h⟩

theorem back_lent (hi : Inv X) (hl : lent.all (fun x => !gs.contains x.1) = true) (G : Goes (X.callee gs lent fl N) X') (ha : any = true) {b s o base tip : Nat} (hm : lent.contains (s, o) = true) (h : X.own b = some (s, o + 1, base, tip)) (f : Bool) :
    (X.back X' gs lent any d).V f b ∧ X'.w.heap[b]? = X.w.heap[b]? := by
  have hm' : (s, o) ∈ lent := by simpa using hm
  have hs : gs.contains s = false := by
    have := List.all_eq_true.1 hl _ hm'
    simpa using this
  refine ⟨.inl (.inr ⟨ha, s, o, base, tip, hm', h⟩), (callee_out (hi := hi) G (hi.own b _ h).1 (fun s' p' u' e => by rw [h] at e; injection e with e; injection e with e _; subst e; exact hs)).2⟩

theorem back_goes (hi : Inv X) (G : Goes (X.callee gs lent fl N) X') : Goes X (X.back X' gs lent any d) where
  os := G.os
  tape := G.tape
  output := G.output
  size := G.size
  keep := fun b hb h => (callee_out (hi := hi) G hb (fun s p u e => by rw [h] at e; simp at e)).2
  va := rfl
  vs := fun b h => .inl (G.vs b h)
  vs' := fun b h => by
    rcases h with h | ⟨_, s, o, base, tip, _, h⟩
    · rcases G.vs' b h with h | h | h
      · exact .inl h
      · refine .inr (.inl fun e => h ?_)
        simp [Ctx.callee, e]
      · exact .inr (.inr h)
    · exact .inr (.inl (by simp [h]))
  own' := fun b h => by
    cases e : (X.back X' gs lent any d).own b with
    | none => exact absurd e h
    | some t =>
      have hX' : X'.own b ≠ none → X.own b ≠ none ∨ X.w.heap.size ≤ b := fun h1 => by
        rcases G.own' b h1 with h2 | h2
        · refine .inl fun e => h2 ?_
          simp [Ctx.callee, e]
        · exact .inr h2
      rcases back_cases e with ⟨p, u, d', h1, _⟩ | ⟨k, s, p, u, h1, _⟩ | ⟨s, p, u, _, h1, _⟩
      · exact hX' (by simp [h1])
      · exact hX' (by simp [h1])
      · exact .inl (by simp [h1])

theorem back_inv (hi : Inv X) (hi' : Inv X') (hn : nodupB gs = true) (hl : lent.all (fun x => !gs.contains x.1) = true) (G : Goes (X.callee gs lent fl N) X') (hd : ∀ d', d = some d' → gs.contains d' = false ∧ ∀ b p base tip, X.own b ≠ some (d', p, base, tip)) : Inv (X.back X' gs lent any d) where
  own := fun b t h => by
    have hX' : ∀ t', X'.own b = some t' → b < X'.w.heap.size ∧ ¬(X.back X' gs lent any d).vs b ∧ ¬X.va b := fun t' h1 => by
      have h2 := hi'.own b t' h1
      refine ⟨h2.1, ?_, ?_⟩
      · rintro (h3 | ⟨_, h3⟩)
        · exact h2.2.1 h3
        · refine h2.2.2 ?_
          rw [G.va]
          exact .inl h3
      · intro h3
        rcases G.own' b (by simp [h1]) with h4 | h4
        · cases e : (X.callee gs lent fl N).own b with
          | none => exact h4 e
          | some t2 =>
            obtain ⟨s, p, u, g, h5, _⟩ := callee_own e
            exact (hi.own b _ h5).2.2 h3
        · have h5 : X.w.heap.size ≤ b := h4
          have := hi.va b h3
          omega
    rcases back_cases h with ⟨p, u, d', h1, _⟩ | ⟨k, s, p, u, h1, _⟩ | ⟨s, p, u, h0, h1, h2, h3, _⟩
    · exact hX' _ h1
    · exact hX' _ h1
    · have h4 := hi.own b _ h1
      refine ⟨Nat.lt_of_lt_of_le h4.1 G.size, ?_, h4.2.2⟩
      rintro (h5 | ⟨ha, s', o', base, tip, h5, h6⟩)
      · rcases G.vs' b h5 with h6 | h6 | h6
        · exact h4.2.1 h6
        · exact h6 (callee_own_none fun s' p' u' e => by rw [h1] at e; injection e with e; injection e with e _; subst e; exact h2)
        · have h7 : X.w.heap.size ≤ b := h6
          omega
      · rw [h1] at h6
        injection h6 with h6; injection h6 with h6 h7; injection h7 with h7 _
        subst h6; subst h7
        exact h3 ⟨ha, by omega, by simpa using h5⟩
  one := fun b b' s o base tip base' tip' h h' => by
    have hgs : ∀ k s, gs[k]? = some s → gs.contains s = true := fun k s h => get_contains h
    rcases back_cases h with ⟨p, u, d', h1, h2, h3⟩ | ⟨k, s1, p, u, h1, h2, h3⟩ | ⟨s1, p, u, h0, h1, h2, _, h3⟩
    · rcases back_cases h' with ⟨p', u', d'', h1', h2', h3'⟩ | ⟨k', s1', p', u', h1', h2', h3'⟩ | ⟨s1', p', u', h0', h1', h2', _, h3'⟩
      · injection h3 with _ h3; injection h3 with h3 _
        injection h3' with _ h3'; injection h3' with h3' _
        subst h3; subst h3'
        exact hi'.one _ _ _ _ _ _ _ _ h1 h1'
      · injection h3 with h3 _; injection h3' with h3' _
        subst h3; subst h3'
        have := (hd _ h2).1
        rw [hgs _ _ h2'] at this; simp at this
      · injection h3 with h3 _; injection h3' with h3' _
        subst h3; subst h3'
        exact absurd h1' ((hd _ h2).2 _ _ _ _)
    · rcases back_cases h' with ⟨p', u', d'', h1', h2', h3'⟩ | ⟨k', s1', p', u', h1', h2', h3'⟩ | ⟨s1', p', u', h0', h1', h2', _, h3'⟩
      · injection h3 with h3 _; injection h3' with h3' _
        subst h3; subst h3'
        have := (hd _ h2').1
        rw [hgs _ _ h2] at this; simp at this
      · injection h3 with h3 h4; injection h4 with h4 _
        injection h3' with h3' h4'; injection h4' with h4' _
        subst h3; subst h4; subst h3'; subst h4'
        have e1 := posOf_at hn h2
        have e2 := posOf_at hn h2'
        rw [e1] at e2; injection e2 with e2; subst e2
        exact hi'.one _ _ _ _ _ _ _ _ h1 h1'
      · injection h3 with h3 _; injection h3' with h3' _
        subst h3; subst h3'
        rw [hgs _ _ h2] at h2'; simp at h2'
    · rcases back_cases h' with ⟨p', u', d'', h1', h2', h3'⟩ | ⟨k', s1', p', u', h1', h2', h3'⟩ | ⟨s1', p', u', h0', h1', h2', _, h3'⟩
      · injection h3 with h3 _; injection h3' with h3' _
        subst h3; subst h3'
        exact absurd h1 ((hd _ h2').2 _ _ _ _)
      · injection h3 with h3 _; injection h3' with h3' _
        subst h3; subst h3'
        rw [hgs _ _ h2'] at h2; simp at h2
      · injection h3 with h3 h4; injection h4 with h4 _
        injection h3' with h3' h4'; injection h4' with h4' _
        subst h3; subst h4; subst h3'; subst h4'
        exact hi.one _ _ _ _ _ _ _ _ h1 h1'
  vs := fun b h => by
    rcases h with h | ⟨_, s, o, base, tip, _, h⟩
    · exact hi'.vs b h
    · exact Nat.lt_of_lt_of_le (hi.own b _ h).1 G.size
  va := fun b h => Nat.lt_of_lt_of_le (hi.va b h) G.size

end
end Go.Proofs.Ytlbigobmhglppaa.R
