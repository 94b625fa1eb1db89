/- The operations that do nothing but answer: all of them in one (calls of Go functions aside). -/
import Derived.Test.YtlbigobmhglppaaR13
set_option linter.unusedVariables false
set_option linter.unusedSimpArgs false
namespace Go.Proofs.Ytlbigobmhglppaa.R
open Go

theorem val_run {P : Program} {w w' : World} {s : Sem Value} {v : Value} (h : s.run P w = .ok v w') : (do pure (Next.value (← s)) : Sem Next).run P w = .ok (.value v) w' := by
  simp [h]

theorem some_map {α β : Type} {o : Option α} {f : α → β} {y : β} (h : o.map f = some y) : ∃ x, o = some x ∧ f x = y := by
  cases o with
  | none => simp at h
  | some x => exact ⟨x, rfl, by simpa using h⟩

theorem osvs_map {X : Ctx} {α : Type} {f : α → Value} {g : α → SV} : ∀ {l : List α}, (∀ x ∈ l, OSV X (f x) (g x)) → OSVs X (l.map f) (l.map g)
  | [], _ => .nil
  | x :: l, h => .cons _ _ _ _ (h x (by simp)) (osvs_map fun y hy => h y (by simp [hy]))

/-- Is it a call of a Go function? -/
def isCall (o : Oper) : Bool :=
  match o.op with
  | .call c => match c.callee with
    | .value _ => true
    | _ => false
  | _ => false

theorem caps_sv {X : Ctx} {ev : Operand → SV} {rho : Operand → Value} (hev : ∀ x, OSV X (rho x) (ev x)) : ∀ {l : List Operand} {r : List Nat}, (l.mapM fun x => slotOf (ev x)) = some r →
    r.length = l.length ∧ ∀ (i : Nat) (v : Value) (s : Nat), (l.map rho)[i]? = some v → r[i]? = some s → ∃ (blk base tip : Nat), v = Value.pointer (some ⟨blk, 0, none⟩) ∧ X.own blk = some (s, 0, base, tip)
  | [], r, h => by
    simp at h; subst h
    exact ⟨rfl, fun i v s h1 h2 => by simp at h1⟩
  | x :: l, r, h => by
    simp only [List.mapM_cons, Option.bind_eq_bind] at h
    obtain ⟨s, e1, h⟩ := some_bind h
    obtain ⟨r', e2, h⟩ := some_bind h
    injection h with h; subst h
    obtain ⟨h1, h2⟩ := caps_sv hev e2
    refine ⟨by simp [h1], fun i v s' hv hs => ?_⟩
    cases i with
    | zero =>
      simp at hv hs; subst hv; subst hs
      unfold slotOf at e1
      split at e1
      · rename_i s1 e3
        injection e1 with e1; subst e1
        have := hev x 0
        rw [e3] at this
        generalize rho x = u at this ⊢
        cases this with
        | bp _ _ blk base tip ho => exact ⟨blk, base, tip, rfl, ho⟩
      · simp at e1
    | succ i => exact h2 i v s' (by simpa using hv) (by simpa using hs)

theorem pure_run {P : Program} {E : Env} (hT : TOk P E.T) {call : CallF} {X : Ctx} {a : Act} {gv : List Value} {σ : St} {E0 : Nat → Nat → Prop} (hg : Good X (All a gv) σ E0) {N : Nat} (hN : N = a.tmps.size) {d : Nat} (hf : Free X d 0)
    {o : Oper} {sv : SV} (h : pureOp E call N o σ = some sv) (hc : isCall o = false) :
    ∃ v X', (execOp a.eval o).run P X.w = .ok (.value v) X'.w ∧ PureRes X X' d v sv := by
  have hev : ∀ x, OSV X (a.eval x) (opd E.T N o.type σ x) := fun x => opd_sv hg hN x
  have hi := hg.inv
  unfold pureOp at h
  unfold execOp
  unfold isCall at hc
  generalize hop : o.op = op at h hc ⊢
  cases op with
  | move x =>
    simp only at h ⊢
    injection h with h; subst h
    exact ⟨a.eval x, X, rfl, .same hi (hev x)⟩
  | assign x =>
    simp only at h ⊢
    have hx := hev x
    refine ⟨a.eval x, X, rfl, .same hi ?_⟩
    split at h
    · rename_i l e; split at h
      · injection h with h; subst h; rw [e] at hx; exact hx
      · simp at h
    · rename_i l e; split at h
      · injection h with h; subst h; rw [e] at hx; exact hx
      · simp at h
    · rename_i s b e; injection h with h; subst h; rw [e] at hx; exact hx
    · rename_i g caps e; injection h with h; subst h; rw [e] at hx; exact hx
    · simp at h
  | pick c x y =>
    simp only at h ⊢
    cases e : (opd E.T N o.type σ c).bool? with
    | none => simp [e] at h
    | some b =>
      simp [e] at h; subst h
      have hb := bool_sv (hev c) e
      refine ⟨if b then a.eval x else a.eval y, X, by simp [hb, asBool], .same hi ?_⟩
      cases b
      · simpa using hev y
      · simpa using hev x
  | binOp op t x y ty =>
    simp only at h ⊢
    cases e : binSV E.T op t (opd E.T N o.type σ x) (opd E.T N o.type σ y) with
    | none => simp [e] at h
    | some p =>
      simp [e] at h; subst h
      obtain ⟨r, hp, h1, h2⟩ := bin_pv hT (hev x) (hev y) e
      refine ⟨p.val, X, ?_, .same hi (pvSV_rel hp)⟩
      have hgd := run_guard (P := P) (w := X.w) (op := op) (t := t) (x := x) (y := y) (b := a.eval y) ⟨h1, h2⟩
      simp only [Sem.run_bind, hgd, Result.andThen_ok, r, Sem.run_pure]
  | unOp op t x =>
    simp only at h ⊢
    cases e : unSV op (opd E.T N o.type σ x) with
    | none => simp [e] at h
    | some p =>
      simp [e] at h; subst h
      obtain ⟨r, hp⟩ := un_pv (P := P) (hev x) e
      exact ⟨p.val, X, val_run r, .same hi (pvSV_rel hp)⟩
  | convert s t x =>
    simp only at h ⊢
    obtain ⟨v, X', r, q⟩ := conv_sv hT hi hf (hev x) h
    exact ⟨v, X', val_run r, q⟩
  | fieldAddr t x f =>
    simp only at h ⊢
    obtain ⟨v, r, q⟩ := field_sv hT (hev x) h
    exact ⟨v, X, val_run r, .same hi q⟩
  | indexAddr t x i =>
    simp only at h ⊢
    obtain ⟨v, r, q⟩ := index_sv hT (hev x) (hev i) h
    exact ⟨v, X, val_run r, .same hi q⟩
  | index t x i =>
    simp only at h ⊢
    obtain ⟨v, r, q⟩ := char_sv hT (hev x) (hev i) h
    exact ⟨v, X, val_run r, .same hi q⟩
  | load t x =>
    simp only at h ⊢
    obtain ⟨v, r, q⟩ := load_sv hT hg (hev x) h
    exact ⟨v, X, val_run r, .same hi q⟩
  | extract x i =>
    simp only at h ⊢
    split at h
    · rename_i s l e
      have hx := hev x
      rw [e] at hx
      obtain ⟨v, r, q⟩ := extract_sv (P := P) hx h
      exact ⟨v, X, val_run r, .same hi q⟩
    · simp at h
  | slice t x lo hi' mx =>
    cases mx with
    | some m => simp at h
    | none =>
      simp only at h ⊢
      have hm : ∀ y : Option Operand, MaybeSV X (y.map a.eval) (y.map (opd E.T N o.type σ)) := fun y => by
        cases y with
        | none => exact ⟨fun v hv => by simp at hv, fun _ => rfl⟩
        | some y => exact ⟨fun v hv => by simp at hv; subst hv; exact ⟨_, rfl, hev y⟩, fun hv => by simp at hv⟩
      obtain ⟨v, r, q⟩ := slice_sv hT (hev x) (hm lo) (hm hi') h
      exact ⟨v, X, val_run r, .same hi q⟩
  | nilCheck x =>
    simp only at h ⊢
    split at h
    · rename_i hgd
      injection h with h; subst h
      refine ⟨a.eval x, X, ?_, .same hi (hev x)⟩
      have hx := hev x 0
      generalize opd E.T N o.type σ x = y at hx hgd
      generalize a.eval x = v at hx ⊢
      cases hx with
      | undef => simp [guardPt] at hgd
      | c => simp [guardPt] at hgd
      | box => simp [guardPt] at hgd
      | bp => rfl
      | ep => rfl
      | epv => rfl
      | sp => rfl
      | fn => rfl
    · simp at h
  | build t ps =>
    simp only at h ⊢
    obtain ⟨z, e1, h⟩ := some_bind h
    obtain ⟨ag, e2, h⟩ := some_bind h
    cases ag with
    | false => simp at h
    | true =>
      simp only [if_true] at h
      cases e3 : fillSV E.T t (ps.toList.map fun p => (p.1, opd E.T N o.type σ p.2)) (z.map (PV.cv false)) with
      | none => simp [e3] at h
      | some l =>
        simp [e3] at h; subst h
        obtain ⟨v, r, q⟩ := build_sv (P := P) hT (X := X) (parts := ps.toList.map fun p => (p.1, a.eval p.2)) e1 e2 (by simp [List.map_map, Function.comp_def]) (by
          rw [List.map_map, List.map_map]
          exact osvs_map fun p _ => hev p.2) e3
        refine ⟨v, X, ?_, .same hi q⟩
        have : (ps.map fun (i, x) => (i, a.eval x)) = (ps.toList.map fun p => (p.1, a.eval p.2)).toArray := by
          apply Array.ext'; simp
        rw [this]
        exact val_run r
  | makeFunc fn first caps =>
    cases fn with
    | func g =>
      simp only at h ⊢
      split at h
      · rename_i hfs
        · obtain ⟨l, e, h⟩ := some_map h
          subst h
          obtain ⟨h1, h2⟩ := caps_sv hev e
          refine ⟨.func (.func g) (first.map a.eval) (caps.map a.eval), X, rfl, .same hi fun k => ?_⟩
          have : first.map a.eval = #[] := by
            have h0 : first = #[] := Array.eq_empty_of_size_eq_zero hfs
            rw [h0]; simp
          rw [this]
          exact .fn g l _ (by simp [h1]) fun i v s hv hs => h2 i v s (by simpa using hv) hs
      · simp at h
    | _ => simp at h
  | makeSlice t n m =>
    simp only at h ⊢
    obtain ⟨e, e1, h⟩ := some_bind h
    obtain ⟨es, e2, h⟩ := some_bind h
    obtain ⟨bs, e3, h⟩ := some_bind h
    obtain ⟨z, e4, h⟩ := some_bind h
    split at h
    · rename_i n' m' hn hm
      have hvn := int_sv (hev n) hn
      have hvm := int_sv (hev m) hm
      split at h
      · rename_i hcond
        obtain ⟨rfl, c1, c2, c3, c4⟩ := hcond
        injection h with h; subst h
        obtain ⟨v, X', r, q⟩ := make_sv (P := P) hT hi hf e1 e2 e3 e4 c1 c2 c3 c4
        rw [hvn, hvm]
        exact ⟨v, X', val_run r, q⟩
      · simp at h
    · simp at h
  | buildSlice t n ps =>
    simp only at h ⊢
    obtain ⟨e, e1, h⟩ := some_bind h
    obtain ⟨es, e2, h⟩ := some_bind h
    obtain ⟨z, e4, h⟩ := some_bind h
    split at h
    · rename_i hcond
      cases e5 : fillRows es (ps.toList.map fun p => (p.1, opd E.T N o.type σ p.2)) false (List.replicate n z) [] with
      | none => simp [e5] at h
      | some r =>
        obtain ⟨σ', f, rows⟩ := r
        simp [e5] at h; subst h
        obtain ⟨v, X', r, q⟩ := rowlit_sv (P := P) hT hi hf (parts := ps.toList.map fun p => (p.1, a.eval p.2)) e1 e2 e4 hcond.1 hcond.2 (by simp [List.map_map, Function.comp_def]) (by
          rw [List.map_map, List.map_map]
          exact osvs_map fun p _ => hev p.2) e5
        have : (ps.map fun (i, x) => (i, a.eval x)) = (ps.toList.map fun p => (p.1, a.eval p.2)).toArray := by
          apply Array.ext'; simp
        rw [this]
        exact ⟨v, X', val_run r, q⟩
    · simp at h
  | call c =>
    simp only at h hc ⊢
    have hargs : OSVs X (c.args.toList.map a.eval) (c.args.toList.map (opd E.T N o.type σ)) := osvs_map fun x _ => hev x
    have hca : c.args.map a.eval = (c.args.toList.map a.eval).toArray := by apply Array.ext'; simp
    generalize c.args.toList.map (opd E.T N o.type σ) = xs at h hargs
    generalize hxv : c.args.toList.map a.eval = xv at hargs hca
    split at h
    · rename_i hcal
      split at h
      · rename_i x t hat
        cases hargs with
        | cons v _ vs _ hv ht =>
          cases ht
          have hat' : c.argTypes = #[t] := by apply Array.ext'; exact hat
          obtain ⟨v', r, q⟩ := len_sv (P := P) (ty := o.type) hT hv h
          refine ⟨v', X, ?_, .same hi q⟩
          simp only [resolve, hcal, hca, hat', Sem.run_bind, Sem.run_pure, Result.andThen_ok, invoke, builtin]
          rw [r]
          rfl
      · simp at h
    · rename_i hcal
      split at h
      · rename_i x l
        cases hargs with
        | cons v _ vs _ hv ht =>
          obtain ⟨v', r, q⟩ := fold_sv (P := P) (g := min2) (m := Builtin.min2) (fun v u x y z h1 h2 h3 => min2_sv h1 h2 h3) ht hv h
          refine ⟨v', X, ?_, .same hi q⟩
          simp only [resolve, hcal, hca, Sem.run_bind, Sem.run_pure, Result.andThen_ok, invoke, builtin, Builtin.min_]
          rw [r]
          rfl
      · simp at h
    · rename_i hcal
      split at h
      · rename_i x l
        cases hargs with
        | cons v _ vs _ hv ht =>
          obtain ⟨v', r, q⟩ := fold_sv (P := P) (g := max2) (m := Builtin.max2) (fun v u x y z h1 h2 h3 => max2_sv h1 h2 h3) ht hv h
          refine ⟨v', X, ?_, .same hi q⟩
          simp only [resolve, hcal, hca, Sem.run_bind, Sem.run_pure, Result.andThen_ok, invoke, builtin, Builtin.max_]
          rw [r]
          rfl
      · simp at h
    · rename_i f hcal
      simp [hcal] at hc
    · simp at h
  | _ => simp at h

end Go.Proofs.Ytlbigobmhglppaa.R
