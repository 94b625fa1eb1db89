/- The evaluator's calls are the machine's. -/
import Derived.Test.YtlbigobmhglppaaR31
set_option linter.unusedVariables false
set_option linter.unusedSimpArgs false
namespace Go.Proofs.Ytlbigobmhglppaa.R
open Go

/-- What the called function leaves: the answer's slot is 0, the variables' are 1 and on. -/
def Ctx.ret (X : Ctx) (d N m : Nat) : Ctx :=
  { X with own := fun b => match X.own b with
      | some (s, p, t) => if s = d then some (0, p, t) else if N ≤ s ∧ s < N + m then some (s - N + 1, p, t) else none
      | none => none }

theorem ret_cases {X : Ctx} {d N m b : Nat} {t : Own} (h : (X.ret d N m).own b = some t) : (∃ p u, X.own b = some (d, p, u) ∧ t = (0, p, u)) ∨ ∃ s p u, X.own b = some (s, p, u) ∧ s ≠ d ∧ N ≤ s ∧ s < N + m ∧ t = (s - N + 1, p, u) := by
  simp only [Ctx.ret] at h
  cases e : X.own b with
  | none => simp [e] at h
  | some x =>
    obtain ⟨s, p, u⟩ := x
    simp only [e] at h
    split at h
    · rename_i h1; subst h1; injection h with h; exact .inl ⟨p, u, rfl, h.symm⟩
    · rename_i h1
      split at h
      · rename_i h2; injection h with h; exact .inr ⟨s, p, u, rfl, h1, h2.1, h2.2, h.symm⟩
      · simp at h

theorem ret_goes (X : Ctx) (d N m : Nat) : Goes X (X.ret d N m) :=
  ⟨rfl, rfl, rfl, Nat.le_refl _, fun _ _ _ => rfl, rfl, fun _ h => h, fun _ h => .inl h, fun b h => .inl fun e => h (by simp [Ctx.ret, e])⟩

theorem ren_cell {X X' : Ctx} (hw : X'.w = X.w) (hV : ∀ f b, X.V f b → X'.V f b) {k s j : Nat} (ht : ∀ b p u, X.own b = some (k, p, u) → X'.own b = some (s, p, u)) {v : Value} {c : CV} (hb : noBr c = true) (h : CVRel X k j v c) : CVRel X' s j v c := by
  cases h with
  | sh f p v h => exact .sh f p v (h.mono fun b hb => ⟨hV f b hb, by rw [hw]⟩)
  | ow0 f es a => exact .ow0 f es a
  | ow f es rows v blk off cap c elem fr h => exact .ow f es rows v blk off cap c elem fr ⟨h.val, h.le, ht _ _ _ h.own, by rw [hw]; exact h.cells, h.fits, h.loose, h.reads.mono fun b hb => ⟨hV f b hb, by rw [hw]⟩⟩
  | br0 => simp [noBr] at hb
  | br => simp [noBr] at hb
  | brv => simp [noBr] at hb
  | dead v => exact .dead v
theorem ren_cells {X X' : Ctx} (hw : X'.w = X.w) (hV : ∀ f b, X.V f b → X'.V f b) {k s : Nat} (ht : ∀ b p u, X.own b = some (k, p, u) → X'.own b = some (s, p, u)) : ∀ {j : Nat} {vs : List Value} {l : List CV}, (∀ c ∈ l, noBr c = true) → CellsRel X k j vs l → CellsRel X' s j vs l
  | j, [], [], hb, .nil _ => .nil j
  | j, v :: vs, c :: l, hb, .cons _ _ _ _ _ h t => .cons j v c vs l (ren_cell hw hV ht (hb c (by simp)) h) (ren_cells hw hV ht (fun c hc => hb c (by simp [hc])) t)

theorem ret_good {X : Ctx} {vs : List Value} {σ : St} {E : Nat → Nat → Prop} (hg : Good X vs σ E) {d N : Nat} {gv : List Value} (hd : σ.length = d) (hv : vs.drop N = gv) (hNl : N + gv.length = σ.length) {cells : List CV} (hE : ∀ a b, E a b → a = d ∧ b < cells.length) {v : Value} {sh : Shape} {us : List Value} (hfl : Flat sh v us)
    (hc : CellsRel X d 0 us cells) (hsol : ∀ c ∈ cells, noBr c = true) (htag : ∀ (p : Nat) (c : CV), cells[p]? = some c → c.isOw = false → Free X d p) {ms : List (List CV)} (hm : boxesAt σ ((List.range gv.length).map (N + ·)) = some ms) (hms : ms.all (·.all noBr) = true) :
    Good (X.ret d N gv.length) (v :: gv) (.c sh cells :: ms.map (.c .box)) NoE := by
  obtain ⟨hl, hget⟩ := boxesAt_get hm
  simp only [List.length_map, List.length_range] at hl
  have hslot : ∀ (g : Nat) (b : List CV), ms[g]? = some b → σ[N + g]? = some (.c .box b) := fun g b h => by
    have hlt : g < gv.length := by rw [← hl]; exact (List.getElem?_eq_some_iff.1 h).1
    exact hget g (N + g) b (by simp [hlt]) h
  have hVV : ∀ f b, X.V f b → (X.ret d N gv.length).V f b := fun f b h => h
  refine ⟨⟨fun b t h => ?_, fun b b' s p base tip base' tip' h h' => ?_, hg.inv.vs, hg.inv.va⟩, ⟨by simp [hl], fun k u sv hu hs => ?_⟩, fun b s p base tip h => ?_, fun b s base tip h => ?_⟩
  · rcases ret_cases h with ⟨p, u, h1, _⟩ | ⟨s, p, u, h1, _⟩ <;> exact hg.inv.own b _ h1
  · rcases ret_cases h with ⟨p1, u1, h1, e1⟩ | ⟨s1, p1, u1, h1, n1, n2, n3, e1⟩
    · rcases ret_cases h' with ⟨p2, u2, h2, e2⟩ | ⟨s2, p2, u2, h2, m1, m2, m3, e2⟩
      · injection e1 with _ e1; injection e1 with e1 _; injection e2 with _ e2; injection e2 with e2 _
        subst e1; subst e2
        exact hg.inv.one _ _ _ _ _ _ _ _ h1 h2
      · injection e1 with e1 _; injection e2 with e2 _; omega
    · rcases ret_cases h' with ⟨p2, u2, h2, e2⟩ | ⟨s2, p2, u2, h2, m1, m2, m3, e2⟩
      · injection e1 with e1 _; injection e2 with e2 _; omega
      · injection e1 with e1 e3; injection e3 with e3 _; injection e2 with e2 e4; injection e4 with e4 _
        have : s1 = s2 := by omega
        subst this; subst e3; subst e4
        exact hg.inv.one _ _ _ _ _ _ _ _ h1 h2
  · cases k with
    | zero =>
      simp at hu hs
      subst hu; subst hs
      exact .c sh _ us cells hfl (ren_cells (X := X) (X' := X.ret d N gv.length) rfl hVV (fun b p u h => by simp [Ctx.ret, h]) hsol hc)
    | succ k =>
      simp only [List.getElem?_cons_succ] at hu hs
      rw [List.getElem?_map] at hs
      obtain ⟨b, hb, rfl⟩ := some_map hs
      have hlt : k < gv.length := by rw [← hl]; exact (List.getElem?_eq_some_iff.1 hb).1
      have hu' : vs[N + k]? = some u := by rw [← hu, ← hv, List.getElem?_drop]
      obtain ⟨blk, base, tip, c, elem, fr, e1, ho, hbk, hfr, hcr⟩ := box_inv (hg.frame.2 (N + k) u _ hu' (hslot k b hb))
      subst e1
      have hown : ∀ b p u, X.own b = some (N + k, p, u) → (X.ret d N gv.length).own b = some (k + 1, p, u) := fun b p u h => by
        simp only [Ctx.ret, h]
        rw [if_neg (by omega), if_pos (by omega)]
        congr 2; omega
      exact .box blk base tip c elem fr b (hown _ _ _ ho) hbk hfr (ren_cells (X := X) (X' := X.ret d N gv.length) rfl hVV hown (List.all_eq_true.1 (List.all_eq_true.1 hms b (List.mem_of_getElem? hb))) hcr)
  · right
    rcases ret_cases h with ⟨p1, u1, h1, e1⟩ | ⟨s1, p1, u1, h1, n1, n2, n3, e1⟩
    · injection e1 with e1 e3; injection e3 with e3 _
      subst e1; subst e3
      rw [cellAt_of (sh := sh) (l := cells) rfl]
      have hp : p < cells.length := by
        rcases hg.tags.cell b d p u1.1 u1.2 h1 with h2 | h2
        · exact (hE _ _ h2).2
        · rw [cellAt_none fun sh l e => by rw [List.getElem?_eq_none (by omega)] at e; simp at e] at h2
          simp [CV.isOw] at h2
      have e2 : cells[p]? = some cells[p] := List.getElem?_eq_getElem hp
      rw [List.getD_eq_getElem?_getD, e2]
      cases hh : (cells[p]).isOw with
      | true => exact hh
      | false => exact absurd h1 (htag p _ e2 hh b u1.1 u1.2)
    · injection e1 with e1 e3; injection e3 with e3 _
      subst e1; subst e3
      have hlt : s1 - N < ms.length := by omega
      have e2 : ms[s1 - N]? = some ms[s1 - N] := List.getElem?_eq_getElem hlt
      have h3 := hslot _ _ e2
      rw [show N + (s1 - N) = s1 from by omega] at h3
      have h2 := (hg.tags.cell b s1 p u1.1 u1.2 h1).resolve_left fun e => n1 (hE _ _ e).1
      rw [cellAt_of h3] at h2
      rw [cellAt_of (sh := .box) (l := ms[s1 - N]) (by simp [e2])]
      exact h2
  · rcases ret_cases h with ⟨p1, u1, h1, e1⟩ | ⟨s1, p1, u1, h1, n1, n2, n3, e1⟩
    · injection e1 with e1 e3; injection e3 with e3 _
      subst e1; subst e3
      obtain ⟨l, h2⟩ := hg.tags.box b d u1.1 u1.2 h1
      rw [List.getElem?_eq_none (by omega)] at h2; simp at h2
    · injection e1 with e1 e3; injection e3 with e3 _
      subst e1; subst e3
      have hlt : s1 - N < ms.length := by omega
      exact ⟨ms[s1 - N], by simp [List.getElem?_eq_getElem hlt]⟩

/-- The functions are the program's. -/
def EnvOk (P : Program) (E : Env) : Prop := ∀ f fn, E.fns f = some fn → P.funcs[f]? = some fn ∧ (fn.name == "runtime.NumGoroutine") = false

/-- What is told by its answers answers so. -/
def OrcOk (P : Program) (E : Env) : Prop := ∀ f g call, E.orc f = some g → CallOk P call → ∀ args bs r, g call args bs = some r → ∃ N, args.length ≤ N ∧
  ∀ (X : Ctx) (argv gv : List Value), argv.length = args.length → Good X (argv ++ List.replicate (N - args.length) undef ++ gv) (args.map (shiftSV N) ++ List.replicate (N - args.length) .undef ++ bs.map (.c .box)) NoE →
    Lands P f argv.toArray X.w fun v w' => ∃ X', X'.w = w' ∧ Goes X X' ∧ Good X' (v :: gv) (r.res :: r.boxes.map (.c .box)) NoE

theorem run_enter {P : Program} {f : FuncId} {fn : Func} (hf : P.funcs[f]? = some fn) (hn : (fn.name == "runtime.NumGoroutine") = false) {c : Code} (hb : fn.body = some c) (args : Array Value) (w : World) : (callFunc f args).run P w = .ok (.enter f args) w := by
  have hn' : fn.name ≠ "runtime.NumGoroutine" := by simpa using hn
  simp [callFunc, hf, hn', hb]

theorem flat_of {vals : List Value} {fs : List (List Value)} {shapes : List (Bool × Nat)} (hn : vals.length = shapes.length ∧ fs.length = shapes.length)
    (h : ∀ (i : Nat) (v : Value) (a : Bool) (n : Nat) (f : List Value), vals[i]? = some v → shapes[i]? = some (a, n) → fs[i]? = some f → f.length = n ∧ ((a = true ∧ ∃ cs : Array Value, v = .agg cs ∧ f = cs.toList) ∨ (a = false ∧ f = [v] ∧ ∀ cs, v ≠ .agg cs))) :
    Flat (shapeOf shapes) (if h : vals.toArray.size = 1 then vals.toArray[0] else .tuple vals.toArray) fs.flatten := by
  by_cases h1 : shapes.length = 1
  · obtain ⟨⟨a, n⟩, rfl⟩ := List.length_eq_one_iff.1 h1
    obtain ⟨v, rfl⟩ := List.length_eq_one_iff.1 (hn.1.trans h1)
    obtain ⟨f, rfl⟩ := List.length_eq_one_iff.1 (hn.2.trans h1)
    obtain ⟨h2, h3⟩ := h 0 v a n f rfl rfl rfl
    simp only [List.flatten_cons, List.flatten_nil, List.append_nil]
    rcases h3 with ⟨rfl, cs, rfl, rfl⟩ | ⟨rfl, rfl, hna⟩
    · exact .agg cs
    · exact .one v hna
  · have hs : shapeOf shapes = .tup shapes := by
      match shapes, h1 with
      | [], _ => rfl
      | [x], h1 => exact absurd rfl h1
      | x :: y :: l, _ =>
        obtain ⟨a, n⟩ := x
        cases a <;> rfl
    rw [hs, dif_neg (by simp; omega)]
    exact .tup shapes vals.toArray fs hn.2 (by simpa using hn.1) fun i v a n f hv => h i v a n f (by simpa using hv)

theorem pcall_ok {P : Program} {E : Env} (hT : TOk P E.T) (hE : EnvOk P E) (hO : OrcOk P E) (hm : P.follows .mixedOrders = true) : ∀ n, CallOk P (pcall E n)
  | 0 => fun g args bs r h => by simp [pcall] at h
  | n + 1 => fun f args bs r h => by
    simp only [pcall] at h
    split at h
    · rename_i g hg
      exact hO f g _ hg (pcall_ok hT hE hO hm n) args bs r h
    obtain ⟨fn, hf, h⟩ := some_bind h
    obtain ⟨code, hb, h⟩ := some_bind h
    split at h
    case isFalse => simp at h
    rename_i hlen
    obtain ⟨⟨ex, σ1⟩, h1, h⟩ := some_bind h
    obtain ⟨hfn, hname⟩ := hE f fn hf
    refine ⟨fn.ntmps, hlen, fun X argv gv hargv hgood => ?_⟩
    have hgl : gv.length = bs.length := by
      have := hgood.frame.1
      simp only [List.length_append, List.length_replicate, List.length_map] at this
      omega
    unfold Lands
    rw [run_enter hfn hname hb]
    simp only
    refine calls_of_wp hfn hb ?_
    let a0 : Act := { tmps := argv.toArray ++ Array.replicate (fn.ntmps - argv.toArray.size) undef, defers := [] }
    have hall : All a0 gv = argv ++ List.replicate (fn.ntmps - args.length) undef ++ gv := by
      simp [All, a0, hargv]
    have hsz : fn.ntmps = a0.tmps.size := by simp [a0]; omega
    rw [← hall] at hgood
    have hfin : ∀ a' X1, Goes X X1 → Good X1 (All a' gv) σ1 NoE → a'.tmps.size = fn.ntmps → (∀ {q}, leaveRes E.T fn.ntmps σ1.length 0 fn.results.toList σ1 = some q → ∀ {σ}, settles ((List.range bs.length).map (fn.ntmps + ·)) q.1 = some σ → ∀ {m}, boxesAt σ ((List.range bs.length).map (fn.ntmps + ·)) = some m → m.all (·.all noBr) = true →
        ∃ v X', (results fn a'.tmps).run P X1.w = .ok v X'.w ∧ Goes X X' ∧ Good X' (v :: gv) (.c (shapeOf q.2.1) q.2.2 :: m.map (.c .box)) NoE ∧ X'.w = X1.w) := fun a' X1 G hg1 hs1 {q} hq {σ} hσ {m} hm' hnb => by
      obtain ⟨σ2, shapes, cells⟩ := q
      have hlen1 : σ1.length = fn.ntmps + gv.length := by
        rw [← hg1.frame.1]; unfold All; rw [List.length_append, Array.length_toList, hs1]
      obtain ⟨X2, vals, fs, L, hvl, hvals⟩ := leave_ok (P := P) hT hs1.symm (d := σ1.length) hg1 (Nat.le_refl _) (fun p _ b base tip e => by
        rcases hg1.tags.cell _ _ _ _ _ e with h2 | h2
        · exact h2
        · rw [cellAt_none fun sh l e => by rw [List.getElem?_eq_none (Nat.le_refl _)] at e; simp at e] at h2
          simp [CV.isOw] at h2) hq
      obtain ⟨X3, k3⟩ := settles_good (All a' gv) L.good hσ
      have hrun : (results fn a'.tmps).run P X1.w = .ok (if h : vals.toArray.size = 1 then vals.toArray[0] else .tuple vals.toArray) X1.w := by
        let g : ResultVar → Value := fun x => match (readRes a'.tmps x).run P X1.w with
          | .ok v _ => v
          | _ => undef
        have hg2 : ∀ (i : Nat) (x : ResultVar) (v : Value), fn.results.toList[i]? = some x → vals[i]? = some v → g x = v := fun i x v hx hv => by
          simp only [g, hvals i x v hx hv]
        have hmap : fn.results.map g = vals.toArray := by
          apply Array.ext'
          simp only [Array.toList_map]
          apply List.ext_getElem?
          intro i
          rw [List.getElem?_map]
          cases hx : fn.results.toList[i]? with
          | none =>
            have : vals.length ≤ i := by rw [← hvl]; exact List.getElem?_eq_none_iff.1 hx
            rw [List.getElem?_eq_none this]; rfl
          | some x =>
            have hlt : i < vals.length := by rw [← hvl]; exact (List.getElem?_eq_some_iff.1 hx).1
            have e1 : vals[i]? = some vals[i] := List.getElem?_eq_getElem hlt
            rw [e1, Option.map_some, hg2 i x _ hx e1]
        have hgx : ∀ x ∈ fn.results, (readRes a'.tmps x).run P X1.w = .ok (g x) X1.w := fun x hx => by
          obtain ⟨i, hi, e1⟩ := List.getElem_of_mem (Array.mem_toList_iff.2 hx)
          have e2 : fn.results.toList[i]? = some x := by rw [List.getElem?_eq_getElem hi, e1]
          have hlt : i < vals.length := by rw [← hvl]; exact hi
          have e3 : vals[i]? = some vals[i] := List.getElem?_eq_getElem hlt
          rw [hvals i x _ e2 e3, hg2 i x _ e2 e3]
        simp only [results, Sem.run_bind]
        rw [run_amapM (g := g)]
        · rw [hmap]; rfl
        · intro x hx
          have := hgx x hx
          cases x <;> exact this
      have hcell : ∀ p, (cellAt σ2 σ1.length p).isOw = false := fun p => by
        rw [cellAt_none fun sh l e => by rw [List.getElem?_eq_none (by rw [L.size]; exact Nat.le_refl _)] at e; simp at e]; rfl
      have hgr := ret_good (N := fn.ntmps) (gv := gv) (d := σ1.length) k3.good (by rw [k3.size, L.size]) (by
        unfold All
        rw [List.drop_left' (by simpa using hs1)]) (by rw [k3.size, L.size]; exact hlen1.symm) (cells := cells) (fun a b e => by
          rcases e with e | ⟨e1, _, e2⟩
          · exact e.elim
          · exact ⟨e1, by omega⟩) (flat_of L.nums L.flat) (firm_list k3.firm hcell (fun c hc => (L.solid c hc).2) L.rel) (fun c hc => (L.solid c hc).2) (fun p c hc hno => k3.free _ _ (by have := L.tag p c hc hno; rwa [Nat.zero_add] at this)) (by rw [hgl]; exact hm') hnb
      refine ⟨_, _, ?_, (G.trans L.goes).trans (k3.goes.trans (ret_goes X3 _ _ _)), hgr, ?_⟩
      · rw [hrun]
        show _ = Result.ok _ X3.w
        rw [k3.w, L.w]
      · show X3.w = X1.w
        rw [k3.w, L.w]
    have hcode := code_ok (P := P) (E := { E with D := E.dead f }) hT (pcall_ok hT hE hO hm n) hm (n := n) code (X := X) (a := a0) (Q := bodyPost P fn fun
        | .returned v, w' => ∃ X', X'.w = w' ∧ Goes X X' ∧ Good X' (v :: gv) (r.res :: r.boxes.map (.c .box)) NoE
        | _, _ => False) hgood hsz h1
    refine hcode fun a' X1 G hg1 hs1 hd1 => ?_
    cases ex with
    | exit i => simp at h
    | normal =>
      obtain ⟨q, hq, h⟩ := some_bind h
      obtain ⟨σ, hσ, h⟩ := some_bind h
      obtain ⟨m, hm', h⟩ := some_bind h
      split at h
      case isFalse => simp at h
      rename_i hnb
      injection h with h; subst h
      obtain ⟨v, X', hr, G', hg', hw⟩ := hfin a' X1 G hg1 hs1 hq hσ hm' hnb
      exact ⟨hd1, v, by rw [hr, hw], X', hw, G', hg'⟩
    | ret =>
      obtain ⟨q, hq, h⟩ := some_bind h
      obtain ⟨σ, hσ, h⟩ := some_bind h
      obtain ⟨m, hm', h⟩ := some_bind h
      split at h
      case isFalse => simp at h
      rename_i hnb
      injection h with h; subst h
      obtain ⟨v, X', hr, G', hg', hw⟩ := hfin a' X1 G hg1 hs1 hq hσ hm' hnb
      exact ⟨hd1, v, by rw [hr, hw], X', hw, G', hg'⟩

end Go.Proofs.Ytlbigobmhglppaa.R
