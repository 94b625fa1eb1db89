/- One operation of the code. -/
import Derived.Test.YtlbigobmhglppaaR25
set_option linter.unusedVariables false
set_option linter.unusedSimpArgs false
namespace Go.Proofs.Ytlbigobmhglppaa.R
open Go

theorem lands_upon {P : Program} {o : Oper} {a : Act} {next : Act → World → Prop} {Q : Exit → Act → World → Prop} {g : FuncId} {args : Array Value} {w : World} (h : Lands P g args w fun v w' => next (a.put o.dst v) w') : o.upon P a next Q ((callFunc g args).run P w) := by
  unfold Lands at h
  generalize (callFunc g args).run P w = r at h ⊢
  cases r with
  | ok n w' =>
    cases n with
    | value v => exact h
    | enter f as =>
      rw [Oper.upon_enter]
      refine Calls.mono h ?_
      intro e w'' he
      cases e with
      | returned v => exact he
      | _ => exact he.elim
    | row row as => rw [Oper.upon_row]; exact h
    | _ => exact h.elim
  | _ => exact h.elim

theorem lands_mono {P : Program} {g : FuncId} {args : Array Value} {w : World} {R R' : Value → World → Prop} (h : Lands P g args w R) (hr : ∀ v w', R v w' → R' v w') : Lands P g args w R' := by
  unfold Lands at h ⊢
  generalize (callFunc g args).run P w = r at h ⊢
  cases r with
  | ok n w' =>
    cases n with
    | value v => exact hr _ _ h
    | enter f as =>
      refine Calls.mono h ?_
      intro e w'' he
      cases e with
      | returned v => exact hr _ _ he
      | _ => exact he.elim
    | row row as => exact Rows.mono h fun v w' => hr v w'
    | _ => exact h.elim
  | _ => exact h.elim

theorem run_callOp {P : Program} {w : World} {a : Act} {o : Oper} {c : Call} {f : Operand} (ho : o.op = .call c) (hc : c.callee = .value f) {g : FuncId} {cs : Array Value} (hf : a.eval f = .func (.func g) #[] cs) :
    (execOp a.eval o).run P w = (callFunc g ((c.args.toList.map a.eval).toArray ++ cs)).run P w := by
  have hargs : c.args.map a.eval = (c.args.toList.map a.eval).toArray := by apply Array.ext'; simp
  unfold execOp
  simp only [ho, resolve, hc, hf, Deferred.ofValue, Sem.run_bind, Sem.run_pure, Result.andThen_ok, invoke, hargs]
  simp

theorem backC_id (lent : List (Nat × Nat)) (k j : Nat) (c : CV) : backC [] lent false k j c = c := by cases c <;> simp [backC]
theorem mapAll_id {g : Nat → CV → CV} (h : ∀ j c, g j c = c) : ∀ (j : Nat) (l : List CV), mapAll g j l = l
  | _, [] => rfl
  | j, c :: l => by simp [mapAll, h, mapAll_id h]
theorem back_id (lent : List (Nat × Nat)) (σ : St) : back [] lent false σ = σ := by
  apply List.ext_getElem?
  intro k
  unfold back
  rw [mapSt_get]
  cases σ[k]? with
  | none => rfl
  | some x =>
    simp only [Option.map_some, Nat.zero_add]
    congr 1
    cases x with
    | c sh l => simp only [SV.mapC]; rw [mapAll_id fun j c => backC_id lent k j c]
    | ep s o kd fl es i f row => simp [SV.mapC, backEp]
    | _ => rfl

/-- A call that only answers. -/
theorem pure_call {P : Program} {E : Env} {call : CallF} (hcall : CallOk P call) {X : Ctx} {a : Act} {gv : List Value} {σ : St} (hg : Good X (All a gv) σ NoE) {N : Nat} (hN : N = a.tmps.size) {d : Nat} (hd : ∀ b p base tip, X.own b ≠ some (d, p, base, tip))
    {o : Oper} {sv : SV} (h : pureOp E call N o σ = some sv) {c : Call} {f : Operand} (ho : o.op = .call c) (hc : c.callee = .value f) :
    ∃ (g : FuncId) (args : Array Value), (execOp a.eval o).run P X.w = (callFunc g args).run P X.w ∧ Lands P g args X.w fun v w' => ∃ X', X'.w = w' ∧ PureRes X X' d v sv := by
  unfold pureOp at h
  simp only [ho, hc] at h
  split at h
  case h_2 => simp at h
  rename_i g hf
  split at h
  case isFalse => simp at h
  rename_i hgh
  obtain ⟨q, hq, h⟩ := some_bind h
  obtain ⟨r, hr, h⟩ := some_bind h
  split at h
  case isFalse => simp at h
  rename_i hcond
  injection h with h
  have hev : ∀ x, OSV X (a.eval x) (opd E.T N o.type σ x) := fun x => opd_sv hg hN x
  have hfv := hev f
  rw [hf] at hfv
  have hgs : (c.args.toList.map (opd E.T N o.type σ)).flatMap ghostsOf ++ [] = [] := by simpa using hgh
  have hin : callIn call σ g [] [] q = some (σ, sv) := by
    unfold callIn
    simp only [boxesAt, Option.bind_some, List.all_nil, List.contains_nil, Bool.not_false, true_and]
    rw [if_pos (by simp)]
    simp only [List.length_nil, Nat.sub_self, List.range'_zero, List.map_nil, List.append_nil, hr, Option.bind_some]
    rw [if_pos ⟨hcond.1, hcond.2.2.1, hcond.2.2.2, by rw [List.length_eq_zero_iff.1 hcond.1]; rfl⟩]
    rw [List.length_eq_zero_iff.1 hcond.1]
    simp only [List.any_nil, Bool.or_false, List.map_nil, hcond.2.1, putBoxes, back_id, h]
  obtain ⟨cs, e1, hL⟩ := callIn_ok hcall hg (gs := []) (caps := []) rfl (osvs_map (l := c.args.toList) (f := a.eval) fun x _ => hev x) hq hgs hfv (d := some d) (fun d' e => by injection e with e; subst e; exact hd) (fun d' e => rfl) hin
  refine ⟨g, _, run_callOp ho hc e1, lands_mono hL ?_⟩
  rintro v w' ⟨X', hw, G, hgood, hs, hm, hres⟩
  obtain ⟨hmono, hnew⟩ := hm rfl fun r' hr' => by
    have := hr.symm.trans hr'
    injection this with this
    rw [← this]; exact hcond.2.1
  obtain ⟨h1, h2, h3⟩ := hres d rfl
  exact ⟨X', hw, G, hmono, hgood.inv, fun b t hb => (hnew b t hb).imp id fun e => by injection e with e; exact e.symm, h1, fun b p base tip e => .inr (h2 b p base tip e), fun b base tip e => absurd e (h3 b base tip)⟩

theorem isCall_op {o : Oper} (h : isCall o = true) : ∃ c f, o.op = .call c ∧ c.callee = .value f := by
  unfold isCall at h
  split at h
  · rename_i c hc
    split at h
    · rename_i f hf
      exact ⟨c, f, hc, hf⟩
    · simp at h
  · simp at h

theorem settle_shape : ∀ {l : List CV} {σ σ' : St}, settle l σ = some σ' → ∀ (d : Nat) (sh : Shape), (∃ m, σ'[d]? = some (.c sh m)) ↔ ∃ m, σ[d]? = some (.c sh m)
  | [], σ, σ', h, d, sh => by simp only [settle] at h; injection h with h; subst h; exact Iff.rfl
  | c :: l, σ, σ', h, d, sh => by
    cases c with
    | br s o kd lo f es rows =>
      simp only [settle] at h
      split at h
      · exact (settle_shape h d sh).trans (mapSt_shape _ _ _ _ _)
      · exact settle_shape h d sh
    | _ => simp only [settle] at h; exact settle_shape h d sh
theorem settles_shape : ∀ {gs : List Nat} {σ σ' : St}, settles gs σ = some σ' → ∀ (d : Nat) (sh : Shape), (∃ m, σ'[d]? = some (.c sh m)) ↔ ∃ m, σ[d]? = some (.c sh m)
  | [], σ, σ', h, d, sh => by simp only [settles] at h; injection h with h; subst h; exact Iff.rfl
  | s :: l, σ, σ', h, d, sh => by
    simp only [settles] at h
    obtain ⟨σ1, h1, h⟩ := some_bind h
    unfold settleBox at h1
    obtain ⟨b, h2, h1⟩ := some_bind h1
    exact (settles_shape h d sh).trans (settle_shape h1 d sh)

/-- A call with an effect. -/
theorem eff_call {P : Program} {E : Env} {call : CallF} (hcall : CallOk P call) {X : Ctx} {a : Act} {gv : List Value} {σ σ' : St} (hg : Good X (All a gv) σ NoE) {N : Nat} (hN : N = a.tmps.size) {d : Nat} (hb : Bare X σ d) (hd : d < σ.length) {ty : TypeId} {f : Operand} {xs : List Operand} {sv : SV}
    (h : callSt E call N ty σ f xs = some (σ', sv)) : ∃ (g : FuncId) (cs : Array Value), a.eval f = .func (.func g) #[] cs ∧ Lands P g ((xs.map a.eval).toArray ++ cs) X.w fun v w' => ∃ X', X'.w = w' ∧ Eff X X' (All a gv) σ' d v sv := by
  unfold callSt at h
  split at h
  case h_2 => simp at h
  rename_i g caps hf
  simp only at h
  split at h
  case isFalse => simp at h
  rename_i hn
  obtain ⟨σ1, h1, h⟩ := some_bind h
  split at h
  case h_2 => simp at h
  rename_i g' caps' hf'
  split at h
  case isFalse => simp at h
  rename_i hcond
  obtain ⟨rfl, hgs⟩ := hcond
  obtain ⟨q, hq, h⟩ := some_bind h
  obtain ⟨X1, k1⟩ := settles_good (All a gv) hg h1
  have hb1 := kept_bare hb k1 (settles_shape h1 d)
  have hev : ∀ x, OSV X1 (a.eval x) (opd E.T N ty σ1 x) := fun x => opd_sv k1.good hN x
  have hfv := hev f
  rw [hf'] at hfv
  have hdg : (List.flatMap (fun x => ghostsOf (opd E.T N ty σ x)) xs ++ caps).contains d = false := by
    have h' := h
    unfold callIn at h'
    obtain ⟨bs, hbs, _⟩ := some_bind h'
    cases hc : (List.flatMap (fun x => ghostsOf (opd E.T N ty σ x)) xs ++ caps).contains d with
    | false => rfl
    | true =>
      obtain ⟨p, hp⟩ := posOf_some hc
      have hp := posOf_get hp
      obtain ⟨e1, e2⟩ := boxesAt_get hbs
      have hlt : p < bs.length := by rw [e1]; exact (List.getElem?_eq_some_iff.1 hp).1
      exact absurd (e2 p d _ hp (List.getElem?_eq_getElem hlt)) (hb1.2.2.2 _)
  obtain ⟨cs, e1, hL⟩ := callIn_ok hcall k1.good hn (osvs_map (l := xs) (f := a.eval) fun x _ => hev x) hq (by rw [List.flatMap_map]; exact hgs) hfv (d := some d) (fun d' e => by injection e with e; subst e; exact hb1.no) (fun d' e => by injection e with e; subst e; exact hdg) h
  rw [k1.w] at hL
  refine ⟨g', cs, e1, lands_mono hL ?_⟩
  rintro v w' ⟨X', hw, G, hgood, hs, _, hres⟩
  obtain ⟨r1, r2, r3⟩ := hres d rfl
  refine ⟨X', hw, k1.goes.trans G, good_set hgood (fun a b e => by injection e with e; exact e.symm) (.refl X') hgood.inv (by rw [hs, k1.size]; exact hd) (fun b t h => .inl h) r3 r1 r2 fun b base tip e => absurd e (r3 b base tip)⟩

/-- A step with an effect. -/
theorem eff_step {P : Program} {E : Env} (hT : TOk P E.T) {call : CallF} (hcall : CallOk P call) {X : Ctx} {a : Act} {gv : List Value} {σ σ' : St} (hg : Good X (All a gv) σ NoE) {N : Nat} (hN : N = a.tmps.size) {d : Nat} (hb : Bare X σ d) (hd : d < N) {o : Oper} (ho : o.dst = some d) {sv : SV}
    (h : effOp E call N o d σ = some (σ', sv)) {next : Act → World → Prop} {Q : Exit → Act → World → Prop} (hnext : ∀ v X', Eff X X' (All a gv) σ' d v sv → next (a.put o.dst v) X'.w) : o.upon P a next Q ((execOp a.eval o).run P X.w) := by
  have hev : ∀ x, OSV X (a.eval x) (opd E.T N o.type σ x) := fun x => opd_sv hg hN x
  have hdl : d < σ.length := by
    rw [← hg.frame.1]; unfold All; rw [List.length_append, Array.length_toList]; omega
  have hval : ∀ {s : Sem Value} {v : Value} {X' : Ctx}, (execOp a.eval o) = (do pure (Next.value (← s)) : Sem Next) → s.run P X.w = .ok v X'.w → Eff X X' (All a gv) σ' d v sv → o.upon P a next Q ((execOp a.eval o).run P X.w) := fun {s v X'} e hr hE => by
    rw [e, val_run hr]
    exact hnext v X' hE
  unfold effOp at h
  cases hop : o.op with
  | assign x =>
    simp only [hop] at h
    split at h
    · rename_i l hx
      obtain ⟨⟨σ1, l'⟩, h1, h2⟩ := some_map h
      injection h2 with h2 h3; subst h2; subst h3
      have hv := hev x
      rw [hx] at hv
      obtain ⟨X', hw, hE⟩ := eff_assign hg hb hdl hv (by simp) h1
      have : (execOp a.eval o).run P X.w = .ok (.value (a.eval x)) X'.w := by rw [hw]; unfold execOp; simp only [hop]; rfl
      rw [this]
      exact hnext _ X' hE
    · rename_i l hx
      obtain ⟨⟨σ1, l'⟩, h1, h2⟩ := some_map h
      injection h2 with h2 h3; subst h2; subst h3
      have hv := hev x
      rw [hx] at hv
      obtain ⟨X', hw, hE⟩ := eff_assign hg hb hdl hv (by simp) h1
      have : (execOp a.eval o).run P X.w = .ok (.value (a.eval x)) X'.w := by rw [hw]; unfold execOp; simp only [hop]; rfl
      rw [this]
      exact hnext _ X' hE
    · simp at h
  | alloc t =>
    simp only [hop] at h
    obtain ⟨z, h1, h2⟩ := some_map h
    injection h2 with h2 h3; subst h2; subst h3
    obtain ⟨v, X', hr, hE⟩ := eff_alloc (P := P) hT hg hb hdl h1
    exact hval (by unfold execOp; simp only [hop]) hr hE
  | box t x =>
    simp only [hop] at h
    obtain ⟨n, h1, h⟩ := some_bind h
    obtain ⟨cs, h2, h⟩ := some_bind h
    split at h
    case isFalse => simp at h
    obtain ⟨⟨σ1, l'⟩, h3, h4⟩ := some_map h
    injection h4 with h4 h5; subst h4; subst h5
    obtain ⟨v, X', hr, hE⟩ := eff_newbox (P := P) (t := t) hg hb hdl (hev x) h2 h3
    exact hval (by unfold execOp; simp only [hop]) hr hE
  | buildSlice t n ps =>
    simp only [hop] at h
    obtain ⟨e, h1, h⟩ := some_bind h
    obtain ⟨es, h2, h⟩ := some_bind h
    obtain ⟨z, h3, h⟩ := some_bind h
    split at h
    case isFalse => simp at h
    rename_i hcond
    obtain ⟨⟨σ1, f, rows⟩, h4, h5⟩ := some_map h
    injection h5 with h5 h6; subst h5; subst h6
    have hp : OParts X σ (ps.toList.map fun p => (p.1, a.eval p.2)) (ps.toList.map fun p => (p.1, opd E.T N o.type σ p.2)) := by
      generalize ps.toList = l
      induction l with
      | nil => exact .nil
      | cons p l ih => exact .cons _ _ _ _ _ (fun cs e => (cells_flat (hev p.2) e).1.ocells) ih
    obtain ⟨v, X', hr, hE⟩ := rowlit_eff (P := P) hT hg hb hdl h1 h2 h3 hcond.1 hcond.2 hp h4
    refine hval ?_ hr hE
    unfold execOp
    simp only [hop]
    have : (ps.map fun (i, x) => (i, a.eval x)) = (ps.toList.map fun p => (p.1, a.eval p.2)).toArray := by
      apply Array.ext'; simp
    rw [this]
  | call c =>
    simp only [hop] at h
    split at h
    · rename_i hcal
      split at h
      · rename_i x y t u hxs hts
        split at h
        case isFalse => simp at h
        rename_i hu
        have hargs : OSVs X (c.args.toList.map a.eval) (c.args.toList.map (opd E.T N o.type σ)) := osvs_map fun x _ => hev x
        rw [hxs] at hargs
        have hca : c.args.map a.eval = (c.args.toList.map a.eval).toArray := by apply Array.ext'; simp
        generalize c.args.toList.map a.eval = av at hargs hca
        cases hargs with
        | cons xv _ _ _ hx ht =>
          cases ht with
          | cons yv _ _ _ hy ht =>
            cases ht
            obtain ⟨v, X', hr, hE⟩ := append_eff (P := P) (ty := o.type) hT hg hb hdl hx hy hu h
            have hat : c.argTypes = #[t, u] := by apply Array.ext'; exact hts
            have : (execOp a.eval o).run P X.w = .ok (.value v) X'.w := by
              unfold execOp
              simp only [hop, resolve, hcal, hca, hat, Sem.run_bind, Sem.run_pure, Result.andThen_ok, invoke, builtin]
              rw [hr]
              rfl
            rw [this]
            exact hnext v X' hE
      · simp at h
    · rename_i f hcal
      obtain ⟨g, cs, e1, hL⟩ := eff_call hcall hg hN hb hdl h
      rw [run_callOp hop hcal e1]
      refine lands_upon (lands_mono hL ?_)
      rintro v w' ⟨X', rfl, hE⟩
      exact hnext v X' hE
    · simp at h
  | _ => simp [hop] at h

end Go.Proofs.Ytlbigobmhglppaa.R
