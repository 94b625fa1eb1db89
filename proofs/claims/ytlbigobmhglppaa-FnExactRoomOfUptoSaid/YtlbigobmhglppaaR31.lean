/- What a function answers. -/
import Derived.Test.YtlbigobmhglppaaR30
set_option linter.unusedVariables false
set_option linter.unusedSimpArgs false
namespace Go.Proofs.Ytlbigobmhglppaa.R
open Go

theorem weaken_cv {X : Ctx} {k j N : Nat} {v : Value} {c : CV} (h : CVRel X k j v c) : CVRel X k j v (weaken N c) := by
  cases h with
  | sh f p v h => exact .sh f p v h
  | ow0 f es a => exact .ow0 f es a
  | ow f es rows v blk off cap c elem fr h => exact .ow f es rows v blk off cap c elem fr h
  | br0 s o kd lo f es a => exact .br0 s o _ lo f es a
  | br s o kd lo f es rows v blk base tip cap c elem fr h =>
    simp only [weaken]
    refine .br s o _ lo f es rows v blk base tip cap c elem fr ⟨h.val, h.le, h.own, h.cells, h.fits, h.loose, h.tipLe, fun h1 => ?_, fun h1 => ?_, h.reads⟩
    · split at h1
      · rename_i hc; exact h.tip1 hc.2
      · omega
    · split at h1 <;> omega
  | brv s o lo f es rows v h =>
    simp only [weaken]
    rw [if_neg (by omega)]
    exact .brv s o lo f es rows v h
  | dead v => exact .dead v

theorem weaken_cells {X : Ctx} {N : Nat} : ∀ {vs : List Value} {l : List CV}, VCells X vs l → VCells X vs (l.map (weaken N))
  | _, _, .nil => .nil
  | _, _, .cons v c vs l h t => .cons v _ vs _ (fun k j => weaken_cv (h k j)) (weaken_cells t)

/-- What the results come to. -/
structure Left (P : Program) (X X' : Ctx) (vs : List Value) (σ σ' : St) (E : Nat → Nat → Prop) (d j : Nat) (vals : List Value) (fs : List (List Value)) (shapes : List (Bool × Nat)) (cells : List CV) : Prop where
  goes : Goes X X'
  w : X'.w = X.w
  good : Good X' vs σ' (fun a b => E a b ∨ (a = d ∧ j ≤ b ∧ b < j + cells.length))
  rel : CellsRel X' d j fs.flatten cells
  nums : vals.length = shapes.length ∧ fs.length = shapes.length
  flat : ∀ (i : Nat) (v : Value) (a : Bool) (n : Nat) (f : List Value), vals[i]? = some v → shapes[i]? = some (a, n) → fs[i]? = some f → f.length = n ∧ ((a = true ∧ ∃ cs : Array Value, v = .agg cs ∧ f = cs.toList) ∨ (a = false ∧ f = [v] ∧ ∀ cs, v ≠ .agg cs))
  free : ∀ s p, ¬(s = d ∧ j ≤ p ∧ p < j + cells.length) → Free X s p → Free X' s p
  noOw : ∀ s p, (cellAt σ s p).isOw = false → (cellAt σ' s p).isOw = false
  firm : ∀ k p v c, Firm σ k p c → CVRel X k p v c → CVRel X' k p v c
  tag : ∀ (p : Nat) (c : CV), cells[p]? = some c → c.isOw = false → Free X' d (j + p)
  solid : ∀ c ∈ cells, c ≠ .dead ∧ noBr c = true
  size : σ'.length = σ.length
  shape : ∀ (d : Nat) (sh : Shape), (∃ m, σ'[d]? = some (.c sh m)) ↔ ∃ m, σ[d]? = some (.c sh m)

theorem firm_list {X X' : Ctx} {σ : St} (H : ∀ k p v c, Firm σ k p c → CVRel X k p v c → CVRel X' k p v c) {d : Nat} (hd : ∀ p, (cellAt σ d p).isOw = false) : ∀ {j : Nat} {vs : List Value} {l : List CV}, (∀ c ∈ l, noBr c = true) → CellsRel X d j vs l → CellsRel X' d j vs l
  | j, [], [], hb, .nil _ => .nil j
  | j, v :: vs, c :: l, hb, .cons _ _ _ _ _ h t => by
    refine .cons j v c vs l (H d j v c ?_ h) (firm_list H hd (fun c hc => hb c (by simp [hc])) t)
    cases c with
    | sh f p => trivial
    | dead => trivial
    | ow f es rows => exact hd j
    | br a b kd lo f es rows => have := hb _ (List.mem_cons_self ..); simp [noBr] at this

def readRes (tmps : Array Value) : ResultVar → Sem Value
  | .tmp t => pure (tmps.getD t undef)
  | .cell a t => do loadVar t (← asAddr (tmps.getD a undef))

theorem results_run {P : Program} {w : World} {tmps : Array Value} : ∀ {l : List ResultVar} {vals : List Value}, l.length = vals.length → (∀ (i : Nat) (x : ResultVar) (v : Value), l[i]? = some x → vals[i]? = some v → (readRes tmps x).run P w = .ok v w) →
    (l.mapM (readRes tmps)).run P w = .ok vals w
  | [], [], _, _ => rfl
  | [], _ :: _, h, _ => by simp at h
  | _ :: _, [], h, _ => by simp at h
  | x :: l, v :: vals, h, H => by
    have h1 := H 0 x v rfl rfl
    have h2 := results_run (P := P) (w := w) (tmps := tmps) (l := l) (vals := vals) (by simpa using h) fun i x v hx hv => H (i + 1) x v (by simpa using hx) (by simpa using hv)
    simp only [List.mapM_cons, Sem.run_bind, h1, Result.andThen_ok, h2, Sem.run_pure]

theorem leave_ok {P : Program} {T : Tys} (hT : TOk P T) {a : Act} {gv : List Value} {N : Nat} (hN : N = a.tmps.size) {d : Nat} : ∀ {rs : List ResultVar} {X : Ctx} {σ σ' : St} {E : Nat → Nat → Prop} {j : Nat} {shapes : List (Bool × Nat)} {cells : List CV}, Good X (All a gv) σ E → σ.length ≤ d →
    (∀ p, j ≤ p → Free X d p) → leaveRes T N d j rs σ = some (σ', shapes, cells) → ∃ X' vals fs, Left P X X' (All a gv) σ σ' E d j vals fs shapes cells ∧ rs.length = vals.length ∧
      ∀ (i : Nat) (x : ResultVar) (v : Value), rs[i]? = some x → vals[i]? = some v → (readRes a.tmps x).run P X.w = .ok v X.w
  | [], X, σ, σ', E, j, shapes, cells, hg, hd, hf, h => by
    simp only [leaveRes] at h
    injection h with h; injection h with h1 h; injection h with h2 h3; subst h1; subst h2; subst h3
    refine ⟨X, [], [], ⟨.refl X, rfl, hg.weak fun _ _ => .inl, .nil j, ⟨rfl, rfl⟩, fun i v a n f hv => by simp at hv, fun _ _ _ h => h, fun _ _ h => h, fun _ _ _ _ _ h => h, fun p c hc => by simp at hc, fun c hc => by simp at hc, rfl, fun _ _ => Iff.rfl⟩, rfl, fun i x v hx => by simp at hx⟩
  | x :: rs, X, σ, σ', E, j, shapes, cells, hg, hd, hf, h => by
    simp only [leaveRes] at h
    obtain ⟨y, hy, h⟩ := some_bind h
    obtain ⟨⟨ag, cs⟩, hr, h⟩ := some_bind h
    obtain ⟨⟨σ1, l'⟩, hp, h⟩ := some_bind h
    obtain ⟨⟨σ2, shapes2, cells2⟩, hrest, h⟩ := some_map h
    injection h with h1 h; injection h with h2 h3; subst h1; subst h2; subst h3
    simp only at hp hrest
    -- the value
    have hval : ∃ v, (readRes a.tmps x).run P X.w = .ok v X.w ∧ OSV X v y := by
      cases x with
      | tmp t =>
        simp only [resultSV] at hy
        injection hy with hy
        exact ⟨_, rfl, by rw [← hy]; exact opd_sv hg hN (.tmp t)⟩
      | cell b t =>
        simp only [resultSV] at hy
        have hb := opd_sv (T := T) (ty := 0) hg hN (.tmp b)
        obtain ⟨v, hv, ho⟩ := load_sv (P := P) hT hg hb hy
        refine ⟨v, ?_, ho⟩
        unfold readRes
        simp only [Instr.loadAt, Sem.run_bind, Act.eval] at hv
        simp only [Sem.run_bind]
        cases hu : a.tmps.getD b undef with
        | pointer ad =>
          cases ad with
          | none => rw [hu] at hv; simp [Instr.sureAddr, stuck] at hv
          | some ad =>
            rw [hu] at hv
            simp only [Instr.sureAddr, asAddr, Sem.run_pure, Result.andThen_ok] at hv ⊢
            exact hv
        | _ => rw [hu] at hv; simp [Instr.sureAddr, stuck] at hv
    obtain ⟨v, hrun, hov⟩ := hval
    have hflat : ∃ us, VCells X us cs ∧ us.length = cs.length ∧ ((ag = true ∧ ∃ c : Array Value, v = .agg c ∧ us = c.toList) ∨ (ag = false ∧ us = [v] ∧ ∀ c, v ≠ .agg c)) := by
      unfold resOf at hr
      split at hr
      · rename_i l
        injection hr with hr; injection hr with e1 e2; subst e1; subst e2
        obtain ⟨us, hf, hc⟩ := osv_cells hov (by simp)
        cases hf with
        | one _ hn => exact ⟨[v], hc, hc.length, .inr ⟨rfl, rfl, hn⟩⟩
      · rename_i l
        injection hr with hr; injection hr with e1 e2; subst e1; subst e2
        obtain ⟨us, hf, hc⟩ := osv_cells hov (by simp)
        cases hf with
        | agg c => exact ⟨c.toList, hc, hc.length, .inl ⟨rfl, c, rfl, rfl⟩⟩
      · simp at hr
    obtain ⟨us, hc, hul, hsh⟩ := hflat
    have hout : ∀ {σ : St} p, σ.length ≤ d → (cellAt σ d p).isOw = false := fun {σ} p hd => by
      rw [cellAt_none fun sh l e => by rw [List.getElem?_eq_none hd] at e; simp at e]; rfl
    obtain ⟨X1, q⟩ := persistAll_good (All a gv) d hg (weaken_cells (N := N) hc).ocells (fun p h1 h2 => ⟨hf p h1, hout p hd⟩) hp
    rw [List.length_map] at q
    obtain ⟨X2, vals, fs, L, hlen, hvals⟩ := leave_ok hT hN (rs := rs) (j := j + cs.length) q.good (by rw [q.size]; exact hd) (fun p hp => q.free d p (by omega) (hf p (by omega))) hrest
    have hsol := cells_one hp
    have hl' : l'.length = cs.length := q.len
    refine ⟨X2, v :: vals, us :: fs, ⟨q.goes.trans L.goes, L.w.trans q.w, L.good.weak ?_, ?_, ⟨by simp [L.nums.1], by simp [L.nums.2]⟩, ?_, ?_, fun s p h => L.noOw s p (q.noOw s p h), fun k p u c hfm h => L.firm k p u c (hfm.keep q.noOw) (q.firm k p u c hfm h), ?_, ?_, L.size.trans q.size, fun d sh => (L.shape d sh).trans (persistAll_shape hp d sh)⟩, by simp [hlen], ?_⟩
    · rintro b c ((h1 | ⟨h1, h2, h3⟩) | ⟨h1, h2, h3⟩)
      · exact .inl h1
      · exact .inr ⟨h1, h2, by simp [hl']; omega⟩
      · exact .inr ⟨h1, by omega, by simp [hl']; omega⟩
    · simp only [List.flatten_cons]
      refine CellsRel.append (firm_list L.firm (fun p => hout p (by rw [q.size]; exact hd)) (fun c hc => (hsol c hc).2) q.cells) ?_
      rw [hl']
      exact L.rel
    · intro i u b n f hv hs hfi
      cases i with
      | zero =>
        simp at hv hs hfi
        obtain ⟨rfl, rfl⟩ := hs
        subst hv; subst hfi
        exact ⟨hul, hsh⟩
      | succ i => exact L.flat i u b n f (by simpa using hv) (by simpa using hs) (by simpa using hfi)
    · intro s p hne hfr
      simp only [List.length_append, hl'] at hne
      refine L.free s p (by omega) (q.free s p (by omega) hfr)
    · intro p c hpc hno
      by_cases hlt : p < l'.length
      · rw [List.getElem?_append_left hlt] at hpc
        refine L.free d (j + p) (by omega) (q.tag p c hpc hno)
      · rw [List.getElem?_append_right (Nat.le_of_not_lt hlt)] at hpc
        have := L.tag _ c hpc hno
        rw [show j + cs.length + (p - l'.length) = j + p from by omega] at this
        exact this
    · intro c hc
      rcases List.mem_append.1 hc with h1 | h1
      · exact hsol c h1
      · exact L.solid c h1
    · intro i y u hx hv
      cases i with
      | zero =>
        simp at hx hv
        subst hx; subst hv
        exact hrun
      | succ i =>
        have := hvals i y u (by simpa using hx) (by simpa using hv)
        rw [q.w] at this
        exact this

end Go.Proofs.Ytlbigobmhglppaa.R
