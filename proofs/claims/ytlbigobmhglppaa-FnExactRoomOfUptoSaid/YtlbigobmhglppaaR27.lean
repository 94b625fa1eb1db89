/- Operations one after the other. -/
import Derived.Test.YtlbigobmhglppaaR26
set_option linter.unusedVariables false
set_option linter.unusedSimpArgs false
namespace Go.Proofs.Ytlbigobmhglppaa.R
open Go

theorem skip_run {P : Program} {w w' : World} {s : Sem Unit} (h : s.run P w = .ok () w') : (do s; pure Next.skip : Sem Next).run P w = .ok .skip w' := by
  simp [h]

/-- A store. -/
theorem store_ok {P : Program} {T : Tys} (hT : TOk P T) {X : Ctx} {a : Act} {gv : List Value} {σ σ' : St} (hg : Good X (All a gv) σ NoE) {N : Nat} (hN : N = a.tmps.size) {oty t : TypeId} {p x : Operand} (h : storeSt T N oty σ t p x = some σ') :
    ∃ X', (Instr.storeAt t (a.eval p) (a.eval x)).run P X.w = .ok () X'.w ∧ Goes X X' ∧ Good X' (All a gv) σ' NoE := by
  unfold storeSt at h
  obtain ⟨n, hn, h⟩ := some_bind h
  split at h
  · rename_i s o hp
    simp only at h
    split at h
    · rename_i s' o' cs hp' hx
      split at h
      case isFalse => simp at h
      rename_i hcond
      obtain ⟨rfl, rfl, hlen⟩ := hcond
      obtain ⟨⟨σ2, l'⟩, h1, h⟩ := some_bind h
      simp only at h
      split at h
      · rename_i l hl
        split at h
        case isFalse => simp at h
        rename_i hfit
        injection h with h; subst h
        exact store_bp hT hg hN hn hp' hx hlen h1 hl hfit
      · simp at h
    · simp at h
  · rename_i s o kd fl es i f row0 hp
    split at h
    case isFalse => simp at h
    obtain ⟨cs, hx, h⟩ := some_bind h
    split at h
    · simp at h
    rename_i hlen
    obtain ⟨⟨σ1, f', ps⟩, h1, h⟩ := some_bind h
    simp only at h
    split at h
    · rename_i s' o' kd' fl' es' i' f2 row' f0 es'' rows hp' hcell
      split at h
      case isFalse => simp at h
      rename_i hcond
      obtain ⟨rfl, rfl, rfl, rfl, rfl, hkd, rfl⟩ := hcond
      obtain ⟨row, hrow, h⟩ := some_bind h
      split at h
      case isFalse => simp at h
      rename_i hfit
      injection h with h; subst h
      exact store_ep hT hg hN hn hx (by simpa using hlen) h1 hp' hkd hcell hrow hfit
    · simp at h
  · simp at h

theorem step_ok {P : Program} {E : Env} (hT : TOk P E.T) {call : CallF} (hcall : CallOk P call) {X : Ctx} {a : Act} {gv : List Value} {σ σ' : St} (hg : Good X (All a gv) σ NoE) {N : Nat} (hN : N = a.tmps.size) {o : Oper} (h : stepOp E call N o σ = some σ')
    {next : Act → World → Prop} {Q : Exit → Act → World → Prop} (hnext : ∀ a' X', Goes X X' → Good X' (All a' gv) σ' NoE → a'.tmps.size = N → a'.defers = a.defers → next a' X'.w) : o.wp P a X.w next Q := by
  unfold Oper.wp
  unfold stepOp at h
  split at h
  · rename_i hdst
    split at h
    · rename_i t p x hop
      obtain ⟨X', hr, G, hgood⟩ := store_ok (P := P) hT hg hN h
      have : (execOp a.eval o).run P X.w = .ok .skip X'.w := by
        unfold execOp
        simp only [hop]
        exact skip_run hr
      rw [this, Oper.upon_skip, hdst]
      exact hnext a X' G hgood hN.symm rfl
    · simp at h
  · rename_i d hdst
    split at h
    case isFalse => simp at h
    rename_i hd
    obtain ⟨X1, C⟩ := clear_good hg d
    have hb : Bare X1 (clear d σ) d := ⟨C.free, C.noBox, C.noOw, C.noBx⟩
    have hlen : N ≤ (clear d σ).length := by
      rw [C.size, ← hg.frame.1]; unfold All; rw [List.length_append, Array.length_toList]; omega
    have hdl : d < (clear d σ).length := Nat.lt_of_lt_of_le hd hlen
    have hfin : ∀ v X' σ2 sv, Eff X1 X' (All a gv) σ2 d v sv → σ' = σ2.set d sv → next (a.put o.dst v) X'.w := fun v X' σ2 sv hE e => by
      subst e
      refine hnext _ X' (C.goes.trans hE.goes) ?_ (by rw [put_size]; exact hN.symm) (put_defers a o.dst v)
      rw [hdst, all_put (hN ▸ hd)]
      exact hE.good
    rw [← C.w]
    simp only at h
    split at h
    · rename_i sv hp
      injection h with h
      cases hc : isCall o with
      | false =>
        obtain ⟨v, X', hr, q⟩ := pure_run (P := P) hT C.good hN (C.free 0) hp hc
        rw [hr, Oper.upon_value]
        exact hfin v X' _ sv (eff_pure C.good hb hdl q) h.symm
      | true =>
        obtain ⟨c, f, ho, hcal⟩ := isCall_op hc
        obtain ⟨g, args, e1, hL⟩ := pure_call hcall C.good hN hb.no hp ho hcal
        rw [e1]
        refine lands_upon (lands_mono hL ?_)
        rintro v w' ⟨X', rfl, q⟩
        exact hfin v X' _ sv (eff_pure C.good hb hdl q) h.symm
    · obtain ⟨⟨σ2, sv⟩, h1, h2⟩ := some_map h
      exact eff_step hT hcall C.good hN hb hd hdst h1 fun v X' hE => hfin v X' _ sv hE h2.symm

/-- An operation that isn't carried out. -/
theorem skip_ok {X : Ctx} {a : Act} {gv : List Value} {σ : St} (hg : Good X (All a gv) σ NoE) {N : Nat} (hN : N = a.tmps.size) {dst : Option Tmp} (hd : dstOk N dst = true) :
    ∃ X', X'.w = X.w ∧ Goes X X' ∧ Good X' (All (a.put dst undef) gv) (putSt dst .undef (clearSt dst σ)) NoE := by
  cases dst with
  | none => exact ⟨X, rfl, .refl X, hg⟩
  | some d =>
    have hd : d < N := by simpa [dstOk] using hd
    obtain ⟨X1, C⟩ := clear_good hg d
    have hlen : N ≤ (clear d σ).length := by
      rw [C.size, ← hg.frame.1]; unfold All; rw [List.length_append, Array.length_toList]; omega
    have hdl : d < (clear d σ).length := Nat.lt_of_lt_of_le hd hlen
    have hE := eff_pure C.good ⟨C.free, C.noBox, C.noOw, C.noBx⟩ hdl (PureRes.same C.good.inv (v := undef) (sv := .undef) fun k => .undef _)
    refine ⟨X1, C.w, C.goes, ?_⟩
    rw [all_put (hN ▸ hd)]
    exact hE.good

theorem wanted_ok {X : Ctx} {a : Act} {gv : List Value} {σ : St} (hg : Good X (All a gv) σ NoE) {N : Nat} (hN : N = a.tmps.size) {ops : Array Oper} {o : Oper} {b : Bool} (h : wantedSt N ops o σ = some b) : Region.wanted o (yielded ops a.tmps) = b := by
  unfold wantedSt at h
  split at h
  · rename_i hgd
    injection h with h; subst h
    simp [Region.wanted, hgd]
  · rename_i j want hgd
    obtain ⟨t, ht, h⟩ := some_bind h
    split at h
    case isFalse => simp at h
    rename_i hlt
    obtain ⟨x, hx, h⟩ := some_map h
    have hop := opd_sv (T := ⟨fun _ => none, fun _ => none, fun _ => none, fun _ => none, fun _ => none, fun _ _ => none, fun _ _ => none, fun _ => none, fun _ => false, fun _ => false, fun _ => false⟩) (ty := 0) hg hN (.tmp t)
    have hv : a.eval (.tmp t) = .bool x := by
      refine bool_sv hop ?_
      simp only [opd, if_pos hlt]
      have : ∀ (sv : SV) k, sv.bool? = some x → (sv.view k).bool? = some x := fun sv k h => by
        unfold SV.bool? SV.pv? SV.one? at h ⊢
        cases sv with
        | c sh l =>
          cases sh with
          | one =>
            cases l with
            | nil => simp at h
            | cons c l =>
              cases l with
              | cons _ _ => simp at h
              | nil =>
                cases c with
                | sh f p => simpa [SV.view, mapAll, CV.view] using h
                | ow f es rows => simp [CV.p?] at h
                | br => simp [CV.p?] at h
                | dead => simp [CV.p?] at h
          | _ => simp at h
        | _ => simp at h
      exact this _ t hx
    have he : a.tmps[t]? = some (.bool x) := by
      have h1 : t < a.tmps.size := hN ▸ hlt
      have h2 : a.tmps[t]? = some a.tmps[t] := Array.getElem?_eq_getElem h1
      simp only [Act.eval] at hv
      rw [h2]
      have h3 : a.tmps.getD t undef = a.tmps[t] := by simp [h1]
      rw [← hv, h3]
    rw [← h]
    cases hoj : ops[j]? with
    | none => simp [hoj] at ht
    | some oj =>
      simp only [hoj, Option.bind_some] at ht
      simp only [Region.wanted, hgd, yielded, hoj, Option.bind_some, ht, he]
      cases x <;> cases want <;> rfl

theorem runOps_ok {P : Program} {E : Env} (hT : TOk P E.T) {call : CallF} (hcall : CallOk P call) {gv : List Value} {N : Nat} {ops : Array Oper} {Q : Exit → Act → World → Prop} : ∀ {l : List Nat} {X : Ctx} {a : Act} {σ σ' : St}, Good X (All a gv) σ NoE → N = a.tmps.size → runOps E call N ops l σ = some σ' →
    (∀ a' X', Goes X X' → Good X' (All a' gv) σ' NoE → a'.tmps.size = N → a'.defers = a.defers → Q .normal a' X'.w) → wpOps P ops Q l a X.w
  | [], X, a, σ, σ', hg, hN, h, hQ => by
    simp only [runOps] at h
    injection h with h; subst h
    exact hQ a X (.refl X) hg hN.symm rfl
  | i :: l, X, a, σ, σ', hg, hN, h, hQ => by
    simp only [runOps] at h
    simp only [wpOps]
    split at h
    · simp at h
    · rename_i o ho
      simp only [ho]
      obtain ⟨w, hw, h0⟩ := some_bind h
      obtain ⟨σ1, h1, h2⟩ := some_bind h0
      clear h h0
      rw [wanted_ok hg hN hw]
      cases w with
      | true =>
        simp only [if_true] at h1 ⊢
        refine .inl (step_ok hT hcall hg hN h1 fun a' X' G hg' hs hd => ?_)
        exact runOps_ok hT hcall hg' hs.symm h2 fun a'' X'' G' hg'' hs' hd' => hQ a'' X'' (G.trans G') hg'' hs' (hd'.trans hd)
      | false =>
        simp only [Bool.false_eq_true, if_false] at h1 ⊢
        split at h1
        case isFalse => simp at h1
        rename_i hdok
        injection h1 with h1; subst h1
        obtain ⟨X', hw', G, hg'⟩ := skip_ok hg hN hdok
        rw [← hw']
        exact runOps_ok hT hcall hg' (by rw [put_size]; exact hN) h2 fun a'' X'' G' hg'' hs' hd' => hQ a'' X'' (G.trans G') hg'' hs' (hd'.trans (put_defers a o.dst undef))

end Go.Proofs.Ytlbigobmhglppaa.R
