/- A call of a Go function, as an operation. -/
import Derived.Test.YtlbigobmhglppaaR17
set_option linter.unusedVariables false
set_option linter.unusedSimpArgs false
namespace Go.Proofs.Ytlbigobmhglppaa.R
open Go

theorem settle_good (vs : List Value) : ∀ {l : List CV} {X : Ctx} {σ σ' : St} {E : Nat → Nat → Prop}, Good X vs σ E → settle l σ = some σ' → ∃ X', Kept X X' vs σ σ' E
  | [], X, σ, σ', E, h, e => by simp only [settle] at e; injection e with e; subst e; exact ⟨X, .refl h⟩
  | c :: l, X, σ, σ', E, h, e => by
    cases c with
    | br s o kd lo f es rows =>
      simp only [settle] at e
      split at e
      · rename_i hc
        have k0 := kept_demote h hc
        obtain ⟨X1, k1⟩ := settle_good vs k0.good e
        exact ⟨X1, k0.trans k1⟩
      · exact settle_good vs h e
    | _ => simp only [settle] at e; exact settle_good vs h e

theorem settles_good (vs : List Value) : ∀ {gs : List Nat} {X : Ctx} {σ σ' : St} {E : Nat → Nat → Prop}, Good X vs σ E → settles gs σ = some σ' → ∃ X', Kept X X' vs σ σ' E
  | [], X, σ, σ', E, h, e => by simp only [settles] at e; injection e with e; subst e; exact ⟨X, .refl h⟩
  | s :: l, X, σ, σ', E, h, e => by
    simp only [settles] at e
    obtain ⟨σ1, h1, e⟩ := some_bind e
    unfold settleBox at h1
    obtain ⟨b, h2, h1⟩ := some_bind h1
    obtain ⟨X1, k1⟩ := settle_good vs h h1
    obtain ⟨X2, k2⟩ := settles_good vs k1.good e
    exact ⟨X2, k1.trans k2⟩

theorem demote_bp {s o : Nat} {σ : St} {k a b : Nat} (h : (demote s o σ)[k]? = some (.bp a b)) : σ[k]? = some (.bp a b) := by
  unfold demote at h
  rw [mapSt_get] at h
  obtain ⟨x, h1, h2⟩ := some_map h
  rw [h1]
  cases x <;> simp [SV.mapC] at h2 <;> first | (simp [h2]) | skip
  split at h2 <;> simp at h2

theorem OSVs.append {X : Ctx} : ∀ {vs vs' : List Value} {xs xs' : List SV}, OSVs X vs xs → OSVs X vs' xs' → OSVs X (vs ++ vs') (xs ++ xs')
  | _, _, _, _, .nil, h => h
  | _, _, _, _, .cons v x vs xs h t, h' => .cons v x _ _ h (OSVs.append t h')

theorem lendArgs_pos {X : Ctx} : ∀ {xs xs' : List SV} {k : Nat} {l : List (Nat × Nat)} {f : Bool}, lendArgs k xs = some (xs', l, f) → xs'.length = xs.length
  | [], xs', k, l, f, e => by simp only [lendArgs] at e; injection e with e; injection e with e1 e; subst e1; rfl
  | x :: xs, xs', k, l, f, e => by
    unfold lendArgs at e
    split at e
    · rename_i e0; cases e0
    · rename_i k0 cs l0 e0; injection e0 with e0 e0'; subst e0; subst e0'
      obtain ⟨⟨c1, l1, f1⟩, e1, e⟩ := some_bind e
      obtain ⟨⟨c2, l2, f2⟩, e2, e⟩ := some_map e
      injection e with e3 e; subst e3
      simp [lendArgs_pos (X := X) e2]
    · rename_i k0 cs l0 e0; injection e0 with e0 e0'; subst e0; subst e0'
      obtain ⟨⟨c1, l1, f1⟩, e1, e⟩ := some_bind e
      obtain ⟨⟨c2, l2, f2⟩, e2, e⟩ := some_map e
      injection e with e3 e; subst e3
      simp [lendArgs_pos (X := X) e2]
    · rename_i k0 s l0 e0; injection e0 with e0 e0'; subst e0; subst e0'
      obtain ⟨⟨c2, l2, f2⟩, e2, e⟩ := some_map e
      injection e with e3 e; subst e3
      simp [lendArgs_pos (X := X) e2]
    · rename_i k0 g caps l0 e0; injection e0 with e0 e0'; subst e0; subst e0'
      obtain ⟨⟨c2, l2, f2⟩, e2, e⟩ := some_map e
      injection e with e3 e; subst e3
      simp [lendArgs_pos (X := X) e2]
    · simp at e

/-- The captured variables, as the called function has them. -/
theorem caps_rel {X : Ctx} {gs : List Nat} {lent : List (Nat × Nat)} {fl : Bool} {N : Nat} (hn : nodupB gs = true) {g : FuncId} {caps : List Nat} {v : Value} (h : OSV X v (.fn g caps)) {k : Nat} (hk : ∀ i s, caps[i]? = some s → gs[k + i]? = some s) :
    ∃ cs : Array Value, v = .func (.func g) #[] cs ∧ OSVs (X.callee gs lent fl N) cs.toList (((List.range' k caps.length).map fun j => SV.bp j 0).map (shiftSV N)) := by
  have h0 := h 0
  cases h0 with
  | fn _ _ cs hs hc =>
    refine ⟨cs, rfl, ?_⟩
    rw [List.map_map]
    have hl : cs.toList.length = caps.length := by simpa using hs
    have hc' : ∀ (i : Nat) (v : Value) (s : Nat), cs.toList[i]? = some v → caps[i]? = some s → ∃ (blk base tip : Nat), v = Value.pointer (some ⟨blk, 0, none⟩) ∧ X.own blk = some (s, 0, base, tip) := fun i v s h1 h2 => hc i v s (by simpa using h1) h2
    clear hs hc h
    generalize cs.toList = l at hl hc'
    clear cs
    induction l generalizing caps k with
    | nil =>
      have : caps = [] := List.length_eq_zero_iff.1 (by simpa using hl.symm)
      subst this
      exact .nil
    | cons v l ih =>
      cases caps with
      | nil => simp at hl
      | cons s caps =>
        simp only [List.length_cons, List.range'_succ, List.map_cons]
        refine .cons v _ l _ (fun j => ?_) (ih (k := k + 1) (fun i s h => ?_) (by simpa using hl) (fun i v s h1 h2 => hc' (i + 1) v s (by simpa using h1) (by simpa using h2)))
        · obtain ⟨blk, base, tip, e, ho⟩ := hc' 0 v s rfl rfl
          subst e
          exact .bp (N + k) 0 blk base tip (callee_own_some ho (posOf_at hn (hk 0 s rfl)))
        · have := hk (i + 1) s (by simpa using h)
          rw [← this]; congr 1; omega

/-- A call comes back. -/
theorem callIn_ok {P : Program} {call : CallF} (hcall : CallOk P call) {X : Ctx} {vs : List Value} {σ σ' : St} (hg : Good X vs σ NoE) {gs caps : List Nat} (hn : nodupB gs = true) {g : FuncId} {sv : SV}
    {argv : List Value} {xs : List SV} {q : List SV × List (Nat × Nat) × Bool} (hx : OSVs X argv xs) (hq : lendArgs 0 xs = some q) (hgs : xs.flatMap ghostsOf ++ caps = gs) {fv : Value} (hf : OSV X fv (.fn g caps))
    {d : Option Nat} (hd : ∀ d', d = some d' → (∀ b p base tip, X.own b ≠ some (d', p, base, tip))) (hdg : ∀ d', d = some d' → gs.contains d' = false) (h : callIn call σ g gs caps q = some (σ', sv)) :
    ∃ cs : Array Value, fv = .func (.func g) #[] cs ∧ Lands P g (argv.toArray ++ cs) X.w fun v w' => ∃ X', X'.w = w' ∧ Goes X X' ∧ Good X' vs σ' (fun a _ => d = some a) ∧ σ'.length = σ.length ∧
      (gs = [] → (∀ r, call g q.1 [] = some r → r.res.cells.any CV.flag = false) → Mono X X' ∧ ∀ b t, X'.own b = some t → X.own b = some t ∨ d = some t.1) ∧
      ∀ d', d = some d' → SVRel X' d' v sv ∧ (∀ b p base tip, X'.own b = some (d', p + 1, base, tip) → (svCell sv p).isOw = true) ∧ (∀ b base tip, X'.own b ≠ some (d', 0, base, tip)) := by
  unfold callIn at h
  obtain ⟨bs, hbs, h⟩ := some_bind h
  split at h
  case isFalse => simp at h
  rename_i hc1
  obtain ⟨r, hr, h⟩ := some_bind h
  split at h
  case isFalse => simp at h
  rename_i hc2
  obtain ⟨xs', lent, f⟩ := q
  simp only at hr h hc1
  injection h with h; injection h with h1 h2
  obtain ⟨N, hN, H⟩ := hcall _ _ _ _ hr
  have hlen := lendArgs_pos (X := X) hq
  have hgl : gs.length = (xs.flatMap ghostsOf).length + caps.length := by rw [← hgs]; simp
  -- the flags
  let fl : Bool := f || bs.any (·.any CV.flag)
  let any : Bool := r.res.cells.any CV.flag || r.boxes.any (·.any CV.flag)
  have ha : OSVs (X.callee gs lent fl N) argv (xs'.map (shiftSV N)) := lendArgs_rel hn hx hq (fun i s hi => by
    rw [← hgs, Nat.zero_add, List.getElem?_append_left (by rw [List.getElem?_eq_some_iff] at hi; exact hi.1)]
    exact hi) (fun x hx => hx) (fun e => by simp [fl, e])
  obtain ⟨cs, e1, hcs⟩ := caps_rel (lent := lent) (fl := fl) (N := N) hn hf (k := gs.length - caps.length) (fun i s hi => by
    have h0 := hgl
    rw [← hgs] at h0 ⊢
    rw [List.getElem?_append_right (by omega)]
    rw [← hi]; congr 1; omega)
  refine ⟨cs, e1, ?_⟩
  have hall := ha.append hcs
  rw [← List.map_append] at hall
  have hgood := callee_good (fl := fl) (N := N) hg hn hbs hc1.1 hc1.2 (by intro e; simp only [fl, e, Bool.or_true]) hall (by rw [List.length_map]; exact hN)
  rw [List.length_map] at hgood
  have hL := H (X.callee gs lent fl N) (argv ++ cs.toList) (gvals vs gs) (by rw [hall.length, List.length_map]) hgood
  have harr : (argv ++ cs.toList).toArray = argv.toArray ++ cs := by simp
  rw [harr] at hL
  have hw : (X.callee gs lent fl N).w = X.w := rfl
  rw [hw] at hL
  have hfin : ∀ v w', (∃ X', X'.w = w' ∧ Goes (X.callee gs lent fl N) X' ∧ Good X' (v :: gvals vs gs) (r.res :: r.boxes.map (.c .box)) NoE) → ∃ X', X'.w = w' ∧ Goes X X' ∧ Good X' vs σ' (fun a _ => d = some a) ∧ σ'.length = σ.length ∧
      (gs = [] → (∀ r, call g xs' [] = some r → r.res.cells.any CV.flag = false) → Mono X X' ∧ ∀ b t, X'.own b = some t → X.own b = some t ∨ d = some t.1) ∧
      ∀ d', d = some d' → SVRel X' d' v sv ∧ (∀ b p base tip, X'.own b = some (d', p + 1, base, tip) → (svCell sv p).isOw = true) ∧ (∀ b base tip, X'.own b ≠ some (d', 0, base, tip)) := by
    rintro v w' ⟨X', e2, G, hg'⟩
    have hb := back_good (fl := fl) (any := any) (d := d) hg hn hbs hc1.2 hd hdg hc2.1 hc2.2.2.2 hc2.2.1 hc2.2.2.1 (fun e => e) G hg'
    subst h1; subst h2
    refine ⟨X.back X' gs lent any d, e2, back_goes hg.inv G, hb.1, hb.2.2, ?_, hb.2.1⟩
    intro hgs0 hfl
    have hbs0 : bs = [] := List.length_eq_zero_iff.1 (by rw [(boxesAt_get hbs).1, hgs0]; rfl)
    have hcp0 : caps = [] := by
      have : caps.length = 0 := by
        have h0 := hgl
        rw [hgs0, List.length_nil] at h0
        omega
      exact List.length_eq_zero_iff.1 this
    have hbx0 : r.boxes = [] := List.length_eq_zero_iff.1 (by rw [hc2.1, hbs0]; rfl)
    have hany : any = false := by
      have : r.res.cells.any CV.flag = false := hfl r (by rw [hbs0, hcp0] at hr; simpa using hr)
      simp only [any, this, hbx0]; rfl
    refine ⟨⟨fun f b hV => back_V hg.inv G f b hV, fun b t ho => ?_⟩, fun b t ho => ?_⟩
    · obtain ⟨s, p, u⟩ := t
      exact back_keep hg.inv G ho (by rw [hgs0]; rfl) (by rw [hany]; simp)
    · rcases back_cases ho with ⟨p', u, d', h1, h2, h3⟩ | ⟨k, s1, p', u, h1, h2, h3⟩ | ⟨s1, p', u, h0, h1, h2, h3, h4⟩
      · exact .inr (by rw [h2, h3])
      · rw [hgs0] at h2; simp at h2
      · exact .inl (by rw [h4]; exact h1)
  unfold Lands at hL ⊢
  generalize (callFunc g (argv.toArray ++ cs)).run P X.w = R at hL ⊢
  cases R with
  | ok n w' =>
    cases n with
    | value v => exact hfin v w' hL
    | enter f as =>
      refine Calls.mono hL ?_
      intro e w'' he
      cases e with
      | returned v => exact hfin v w'' he
      | _ => exact he
    | row row as => exact Rows.mono hL fun v w'' he => hfin v w'' he
    | _ => exact hL
  | _ => exact hL

end Go.Proofs.Ytlbigobmhglppaa.R
