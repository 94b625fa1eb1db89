/- What is told of a sort: the slice that a cell owns has its texts in order behind it. -/
import Derived.Test.YtblelojdboefjaaDoorM5
import Derived.Shelf.Sort.Plain
import Derived.Shelf.Slices.In.SortNone
import Derived.Lib.SliceRun
import Derived.Shelf.Slices.CompactI
import Derived.Shelf.Spec.SlicesGrow
set_option linter.unusedVariables false
set_option linter.unusedSimpArgs false
namespace Go.Proofs.YtblelojdboefjaaDoor.R
open Go Go.Sort Go.Shelf Go.RowKit

/-- New blocks behind the heap. -/
theorem good_grow {X : Ctx} {vs : List Value} {σ : St} {E : Nat → Nat → Prop} (hg : Good X vs σ E) (os : Array Obj) : Goes X (X.turned (grow X.w os)) ∧ Good (X.turned (grow X.w os)) vs σ E := by
  have hold : ∀ b, b < X.w.heap.size → (grow X.w os).heap[b]? = X.w.heap[b]? := fun b hb => heap_grow_old X.w os hb
  have hsz : X.w.heap.size ≤ (grow X.w os).heap.size := by rw [size_grow]; omega
  have hm : Mono X (X.turned (grow X.w os)) := by
    refine ⟨fun f b h => ⟨h, hold b ?_⟩, fun b t h => ⟨h, hold b (hg.inv.own b t h).1⟩⟩
    rcases h with h | ⟨_, h⟩
    · exact hg.inv.vs b h
    · exact hg.inv.va b h
  refine ⟨⟨rfl, rfl, rfl, hsz, fun b hb _ => hold b hb, rfl, fun _ h => h, fun _ h => .inl h, fun _ h => .inl h⟩, ⟨⟨fun b t h => ?_, hg.inv.one, fun b h => ?_, fun b h => ?_⟩, hg.frame.mono hm, ⟨hg.tags.cell, hg.tags.box⟩⟩⟩
  · exact ⟨Nat.lt_of_lt_of_le (hg.inv.own b t h).1 hsz, (hg.inv.own b t h).2⟩
  · exact Nat.lt_of_lt_of_le (hg.inv.vs b h) hsz
  · exact Nat.lt_of_lt_of_le (hg.inv.va b h) hsz

theorem wrote_row {α : Type} [Inhabited α] (enc : α → Value) {w : World} {b off n : Nat} {c : Array Value} {elem : TypeId} {fr : Nat × Nat} (h : w.heap[b]? = some (.cells c elem fr)) (d : Array α) :
    Wrote w (putRow enc (Sort.ahead w n) b off d) b (putCells enc off d c) elem fr where
  at_ := by
    show (w.heap.modify b (onCells (putCells enc off d)))[b]? = _
    rw [Array.getElem?_modify, if_pos rfl, h]; rfl
  else_ := fun k hk => by
    show (w.heap.modify b (onCells (putCells enc off d)))[k]? = _
    rw [Array.getElem?_modify, if_neg (Ne.symm hk)]
  size := by
    show (w.heap.modify b (onCells (putCells enc off d))).size = _
    rw [Array.size_modify]
  os := rfl
  tape := rfl
  output := rfl

theorem cells_get {X : Ctx} {k : Nat} : ∀ {j : Nat} {vs : List Value} {l : List CV}, CellsRel X k j vs l → ∀ (o : Nat) (c : CV), l[o]? = some c → ∃ v, vs[o]? = some v ∧ CVRel X k (j + o) v c
  | _, _, _, .nil j, o, c, h => by simp at h
  | _, _, _, .cons j v cv vs l h t, 0, c, e => by
    simp at e; subst e
    exact ⟨v, rfl, h⟩
  | _, _, _, .cons j v cv vs l h t, o + 1, c, e => by
    obtain ⟨v', h1, h2⟩ := cells_get t o c (by simpa using e)
    exact ⟨v', by simpa using h1, by rw [show j + (o + 1) = j + 1 + o from by omega]; exact h2⟩

/-- A slice that a cell owns whole, and a look at it. -/
theorem look_whole {X : Ctx} {vs : List Value} {σ : St} {E : Nat → Nat → Prop} (hg : Good X vs σ E) {s o es es' : Nat} {f f' : Bool} {rows rows' : List (List PV)} {v : Value}
    (hl : ∀ k j, CVRel X k j v (.br s o [] 0 0 f es rows)) (hc : cellAt σ s o = .ow f' es' rows') (hn : rows'.length ≠ 0) (hlen : rows.length = rows'.length) :
    ∃ blk base cap c elem fr, v = .slice (some ⟨blk, base, none⟩) rows'.length cap ∧ rows'.length ≤ cap ∧ X.own blk = some (s, o + 1, [], base, rows'.length) ∧ X.w.heap[blk]? = some (.cells c elem fr) ∧ free fr c.size ∧
      base + rows'.length * es' ≤ c.size ∧ X.ORows f' s o [] 0 c base es' rows' := by
  have h0 := hl 0 0
  obtain ⟨v', how⟩ := cell_rel hg hc (by simp)
  cases h0 with
  | br0 _ _ _ _ _ _ _ a => exact absurd (by simpa using hlen.symm) hn
  | br _ _ _ _ _ _ _ _ _ blk base tip cap c elem fr h =>
    cases how with
    | ow0 _ _ a => exact absurd rfl hn
    | ow _ _ _ _ blk' off cap' c' elem' fr' h' =>
      have e1 : blk' = blk := hg.inv.one _ _ _ _ _ _ _ _ _ h'.own h.own
      subst e1
      have e2 := h'.own.symm.trans h.own
      injection e2 with e2; injection e2 with _ e2; injection e2 with _ e2; injection e2 with _ e2; injection e2 with e2 e3
      subst e2
      have hv := h.val
      simp only [Nat.zero_mul, Nat.add_zero] at hv
      refine ⟨blk', off, cap, c', elem', fr', by rw [← hlen]; exact hv, by rw [← hlen]; exact h.le, h'.own, h'.cells, h'.loose, ?_, h'.reads⟩
      exact Nat.le_trans (Nat.add_le_add_left (Nat.mul_le_mul_right _ h'.le) _) h'.fits

theorem at_root {σ : St} {s o es : Nat} {f : Bool} {rows : List (List PV)} (h : cellAt σ s o = .ow f es rows) : atP σ s o [] = some (f, es, rows) := by
  unfold atP
  rw [h]
  rfl

theorem texts_rows : ∀ {rows : List (List PV)} {l : List (List UInt8)}, texts? rows = some l → rows = l.map fun x => [.t ⟨x.toArray⟩]
  | [], l, h => by simp [texts?] at h; subst h; rfl
  | r :: rows, l, h => by
    unfold texts? at h
    split at h
    · rename_i e; cases e
    · rename_i s l' e
      injection e with e1 e2
      subst e1; subst e2
      obtain ⟨m, h1, h2⟩ := some_map h
      subst h2
      rw [texts_rows h1]
      rfl
    · simp at h

theorem lands_of {P : Program} {f : FuncId} {fn : Func} (hf : P.funcs[f]? = some fn) (hn : (fn.name == "runtime.NumGoroutine") = false) {c : Code} (hb : fn.body = some c) {args : Array Value} {w : World} {R : Value → World → Prop}
    (h : Calls P f args w fun | .returned v, w' => R v w' | _, _ => False) : Lands P f args w R := by
  unfold Lands
  rw [run_enter hf hn hb]
  exact h

theorem put_rows {c : Array Value} {off : Nat} {l : List (List UInt8)} (h : off + l.length ≤ c.size) {hp : Array Obj} {V : Nat → Prop} : RdRows hp V (putCells encStr off l.toArray c) off 1 (l.map fun x => [.t ⟨x.toArray⟩]) := by
  refine RdRows.mk fun i row hi => ?_
  rw [List.getElem?_map] at hi
  obtain ⟨x, hx, rfl⟩ := some_map hi
  have hlt : i < l.length := (List.getElem?_eq_some_iff.1 hx).1
  refine ⟨rfl, RdRow.mk fun j p hj => ?_⟩
  have hj0 : j = 0 := by
    have := (List.getElem?_eq_some_iff.1 hj).1
    simp at this; exact this
  subst hj0
  simp at hj
  subst hj
  refine ⟨encStr x, ?_, .t _⟩
  unfold putCells
  rw [Array.getElem?_mapIdx, Nat.mul_one, Nat.add_zero, Array.getElem?_eq_getElem (by omega), Option.map_some, if_pos ⟨by omega, by simp; omega⟩]
  congr 2
  rw [show off + i - off = i from by omega, getElem!_pos _ i (by simpa using hlt)]
  have := List.getElem?_eq_getElem hlt
  rw [hx] at this
  injection this with this
  simpa using this.symm

theorem sortText_ok {P : Program} {ρ : Ren} (L : Lays.n190 P ρ) {fn : Func} (hf : P.funcs[ρ.f 190]? = some fn) (hn : (fn.name == "runtime.NumGoroutine") = false) {cd : Code} (hb : fn.body = some cd) : StOrcOk P (ρ.f 190) sortTextOrc := by
  intro X vs σ σ' args svs sv d hg hlen hrel h hd hown hnow hbox
  unfold sortTextOrc at h
  split at h
  case h_2 => simp at h
  rename_i s o f es rows
  split at h
  case h_2 => simp at h
  rename_i f' rows' hcell
  split at h
  case isFalse => simp at h
  rename_i hcond
  obtain ⟨l, h1, h2⟩ := some_map h
  match args, hlen with
  | [v], _ =>
  have hv : ∀ k j, CVRel X k j v (.br s o [] 0 0 f es rows) := fun k j => by
    have := hrel 0 v _ rfl rfl k
    cases this with
    | c _ _ ws _ hfl hc =>
      cases hfl with
      | one _ _ =>
        cases hc with
        | cons _ _ _ _ _ hc _ => exact any_br hc k j
  have hlr := texts_rows h1
  have hfin : ∀ {X' : Ctx} {σ2 : St}, Goes X X' → Good X' vs σ2 NoE → σ2.length = σ.length → (∀ b p q base tip, X'.own b ≠ some (d, p, q, base, tip)) → ∀ u, Good X' (vs.set d u) (σ2.set d .undef) NoE := fun {X' σ2} G g hs ho u =>
    good_set g (fun _ _ e => e.elim) (.refl X') g.inv (by rw [hs]; exact hd) (fun b t h => .inl h) (fun b q base tip => ho b 0 q base tip) (.undef u) (fun b p q base tip e => absurd e (ho b _ q base tip)) (fun b q base tip e => absurd e (ho b 0 q base tip))
  by_cases h0 : rows'.length = 0
  · rw [if_pos h0] at h2
    injection h2 with h2 h3; subst h2; subst h3
    have hr0 : rows = [] := List.length_eq_zero_iff.1 (hcond.1.trans h0)
    subst hr0
    have hva : ∃ a cap, v = .slice a 0 cap := by
      cases hv 0 0 with
      | br0 _ _ _ _ _ _ _ a => exact ⟨a, 0, rfl⟩
      | br _ _ _ _ _ _ _ _ _ blk base tip cap c elem fr h => exact ⟨_, cap, h.val⟩
    obtain ⟨a, cap, rfl⟩ := hva
    refine lands_of hf hn hb ((Any.slices_Sort_string_none L a cap X.w).mono ?_)
    rintro e w' ⟨rfl, rfl⟩
    exact ⟨X, rfl, .refl X, hfin (.refl X) hg rfl hown _⟩
  · rw [if_neg h0] at h2
    injection h2 with h2 h3; subst h2; subst h3
    obtain ⟨blk, base, cap, c, elem, fr, rfl, hle, ho, hc, hfr, hfit, hrd⟩ := look_whole hg hv hcell h0 hcond.1
    have hll : l.length = rows'.length := by rw [hlr, List.length_map]
    have hH : Holds encStr X.w blk base l.toArray := fun j hj => by
      have hj' : j < l.length := by simpa using hj
      obtain ⟨g1, g2⟩ := hrd.get j [.t ⟨l[j].toArray⟩] (by rw [hlr, List.getElem?_map, List.getElem?_eq_getElem hj']; rfl)
      obtain ⟨x, hx, hr⟩ := g2.get 0 _ rfl
      cases hr with | rd _ _ _ hr =>
      cases hr
      rw [Nat.mul_one, Nat.add_zero] at hx
      refine ⟨?_, ?_⟩
      · rw [cell_none hc, hx, getElem!_pos _ j hj]; simp
      · have := hfr (base + j) (Array.getElem?_eq_some_iff.1 hx).1
        simp only [World.frozen?, hc]
        simpa using this
    have hblk : blk < X.w.heap.size := (hg.inv.own blk _ ho).1
    have hrun := Any.slices_Sort_string L blk base cap l X.w hH hblk (by rw [hll]; exact hcond.2)
    rw [hll, ← sortTexts_merge] at hrun
    refine lands_of hf hn hb (hrun.mono ?_)
    rintro e w' ⟨rfl, n, os, rfl⟩
    have hsl : (sortTexts l).length = l.length := (sortBy_perm _ l).length_eq
    have hW := wrote_row encStr (n := n) (off := base) hc (sortTexts l).toArray
    obtain ⟨G1, g1⟩ := wrote_good hg hW ho hc (by simp [putCells]) (at_root hcell) (rows' := (sortTexts l).map fun x => [.t ⟨x.toArray⟩]) (f' := false) (by rw [List.length_map, hsl, hll])
      ((put_rows (by rw [hsl, hll]; omega)).asO [] 0)
    obtain ⟨G2, g2⟩ := good_grow g1 os
    refine ⟨_, rfl, G1.trans G2, hfin (G1.trans G2) g2 (by unfold turn modS; rw [mapSt_length]) hown _⟩

end Go.Proofs.YtblelojdboefjaaDoor.R

/- slices.Clone: a slice of its own with the same rows; nil stays nil (which no one asks of it here). -/
set_option linter.unusedVariables false
set_option linter.unusedSimpArgs false
namespace Go.Proofs.YtblelojdboefjaaDoor.R
open Go

/-- The code of slices.Clone at slices of type ty. -/
def cloneCode (ty bt : TypeId) : Code :=
  .seq (.region 0 #[{ dst := some 2, op := .assign (.const (.slice none 0 0)), type := ty, pos := "slices.go:355", after := #[], guard := none }] false)
    (.seq
      (.seq (.region 1 #[{ dst := some 3, op := .move (.tmp 0), type := ty, pos := "slices.go:357", after := #[], guard := none },
          { dst := some 4, op := .binOp .eql ty (.tmp 3) (.const (.slice none 0 0)) ty, type := bt, pos := "slices.go:357", after := #[{ on := 0, ground := .data }], guard := none }] false)
        (.cond (.tmp 4) (.seq (.region 2 #[{ dst := some 2, op := .assign (.const (.slice none 0 0)), type := ty, pos := "slices.go:358", after := #[], guard := none }] false) .ret) .skip))
      (.seq (.region 3 #[{ dst := some 5, op := .buildSlice ty 0 #[], type := ty, pos := "slices.go:362", after := #[], guard := none },
          { dst := some 6, op := .move (.tmp 0), type := ty, pos := "slices.go:362", after := #[], guard := none },
          { dst := some 7, op := .call { callee := .builtin .append, args := #[.tmp 5, .tmp 6], argTypes := #[ty, ty] }, type := ty, pos := "slices.go:362", after := #[{ on := 0, ground := .data }, { on := 1, ground := .data }], guard := none },
          { dst := some 2, op := .assign (.tmp 7), type := ty, pos := "slices.go:362", after := #[{ on := 2, ground := .data }, { on := 2, ground := .chain }, { on := 0, ground := .phase }, { on := 1, ground := .phase }, { on := 2, ground := .phase }], guard := none }] false) .ret))

/-- Is a slice nil? One that has elements is not. -/
theorem nil_step {P : Program} {T : Tys} (hT : TOk P T) {X : Ctx} {a : Act} {gv : List Value} {σ : St} (hg : Good X (All a gv) σ NoE) {N : Nat} (hN : N = a.tmps.size) {o : Oper} {d : Nat} {ty k : TypeId} {e : TypeId} {x : Operand} {f : Bool} {es : Nat} {rows : List (List PV)}
    (ho : o.op = .binOp .eql ty x (.const (.slice none 0 0)) k) (hd : o.dst = some d) (hdN : d < N) (hty : T.sl ty = some e) (hx : opd T N o.type (clear d σ) x = .c .one [.sh f (.s es rows)])
    {next : Act → World → Prop} {Q : Exit → Act → World → Prop} (hnext : ∀ b, (rows ≠ [] → b = false) → ∀ a' X', Goes X X' → Good X' (All a' gv) ((clear d σ).set d (pvSV (.b b))) NoE → a'.tmps.size = N → a'.defers = a.defers → next a' X'.w) : o.wp P a X.w next Q := by
  unfold Oper.wp
  obtain ⟨X1, C⟩ := clear_good hg d
  have hb : Bare X1 (clear d σ) d := ⟨C.free, C.noBox, C.noOw, C.noBx⟩
  have hlen : N ≤ (clear d σ).length := by
    rw [C.size, ← hg.frame.1]; unfold All; rw [List.length_append, Array.length_toList]; omega
  have hdl : d < (clear d σ).length := Nat.lt_of_lt_of_le hdN hlen
  have hxv := opd_sv C.good hN (T := T) (ty := o.type) x
  rw [hx] at hxv
  have h0 := hxv 0
  have : ∃ av n cap, a.eval x = .slice av n cap ∧ (rows ≠ [] → av.isNone = false) := by
    generalize a.eval x = v at h0
    cases h0 with
    | c _ _ ws _ hfl hc =>
      cases hfl with
      | one _ _ =>
        cases hc with
        | cons _ _ _ _ _ hc _ =>
          cases hc with
          | sh _ _ _ hrd =>
            cases hrd with
            | s0 av cap _ => exact ⟨av, 0, cap, rfl, fun h => absurd rfl h⟩
            | s blk off n cap _ c elem fr _ _ _ _ _ _ => exact ⟨_, n, cap, rfl, fun _ => rfl⟩
  obtain ⟨av, n, cap, hv, hne⟩ := this
  have hr : (execOp a.eval o).run P X1.w = .ok (.value (.bool av.isNone)) X1.w := by
    unfold execOp
    simp only [ho]
    refine val_run ?_
    rw [hv]
    exact Lib.run_eql_slice_nil X1.w ty e av n cap 0 0 (hT.sl ty e hty)
  rw [← C.w, hr, Oper.upon_value]
  have hE := eff_pure C.good hb hdl (PureRes.same C.good.inv (d := d) (v := .bool av.isNone) (sv := pvSV (.b av.isNone)) fun k => .c .one _ [_] _ (.one _ (fun cs h => by cases h)) (.cons _ _ _ _ _ (.sh _ _ _ (.b _)) (.nil _)))
  refine hnext av.isNone hne _ X1 (C.goes.trans hE.goes |> fun _ => C.goes) ?_ (by rw [put_size]; exact hN.symm) (put_defers a o.dst _)
  rw [hd, all_put (hN ▸ hdN)]
  exact hE.good

theorem wpOps_cons {P : Program} {ops : Array Oper} {Q : Exit → Act → World → Prop} {i : Nat} {l : List Nat} {X : Ctx} {a : Act} {gv : List Value} {σ : St} (hg : Good X (All a gv) σ NoE) {N : Nat} (hN : N = a.tmps.size) {o : Oper} (ho : ops[i]? = some o) (hgd : o.guard = none)
    (h : o.wp P a X.w (fun a' w' => wpOps P ops Q l a' w') Q) : wpOps P ops Q (i :: l) a X.w := by
  simp only [wpOps, ho]
  rw [wanted_ok hg hN (ops := ops) (o := o) (b := true) (by simp [wantedSt, hgd])]
  exact .inl h

/-- What is held of a slot is held of it in other words. -/
theorem good_swap {X : Ctx} {vs : List Value} {σ : St} {E : Nat → Nat → Prop} (hg : Good X vs σ E) {k : Nat} {sh sh' : Shape} {l l' : List CV} (hk : σ[k]? = some (.c sh l)) (hr : ∀ v, SVRel X k v (.c sh l) → SVRel X k v (.c sh' l')) (hc : ∀ p, (l.getD p .dead).isOw = (l'.getD p .dead).isOw)
    (hb : sh ≠ .box) : Good X vs (σ.set k (.c sh' l')) E := by
  have hlt : k < σ.length := (List.getElem?_eq_some_iff.1 hk).1
  refine ⟨hg.inv, ⟨by simpa using hg.frame.1, fun j v sv hv hs => ?_⟩, ⟨fun b s p q base tip ho => (hg.tags.cell b s p q base tip ho).imp id fun h => ?_, fun b s q base tip ho => ?_⟩⟩
  · by_cases hj : j = k
    · subst hj
      rw [List.getElem?_set_self hlt] at hs
      injection hs with hs; subst hs
      exact hr v (hg.frame.2 j v _ hv hk)
    · rw [List.getElem?_set_ne (Ne.symm hj)] at hs
      exact hg.frame.2 j v sv hv hs
  · by_cases hj : s = k
    · subst hj
      rw [cellAt_of hk] at h
      rw [cellAt_of (List.getElem?_set_self hlt), ← hc]
      exact h
    · unfold cellAt at h ⊢
      rw [List.getD_eq_getElem?_getD] at h ⊢
      rw [List.getElem?_set_ne (Ne.symm hj)]
      exact h
  · obtain ⟨l1, h1⟩ := hg.tags.box b s q base tip ho
    by_cases hj : s = k
    · subst hj
      rw [hk] at h1
      injection h1 with h1; injection h1 with h1 _
      exact absurd h1 hb
    · exact ⟨l1, by rw [List.getElem?_set_ne (Ne.symm hj)]; exact h1⟩

theorem clone_flat {P : Program} {T : Tys} (hT : TOk P T) (hmo : T.mo = false) (hm : P.follows .mixedOrders = true) {call : CallF} (hcall : CallOk P call) {f : FuncId} {fn : Func} {ty bt e : TypeId} {es bs : Nat} {z : List PV} (hfn : P.funcs[f]? = some fn) (hname : (fn.name == "runtime.NumGoroutine") = false)
    (hb : fn.body = some (cloneCode ty bt)) (hnt : fn.ntmps = 8) (hres : fn.results = #[.tmp 2]) (h1 : T.sl ty = some e) (h2 : T.sz e = some es) (h3 : T.byt e = some bs) (h4 : T.zr e = some z) (hz : z.length = es) (hbs : bs ≠ 0) {zs : Bool} (hzs : zs = z.all PV.scalar)
    {args : List SV} {b : List (List CV)} {r : Ret} (hr : cloneOrc es bs zs call args b = some r) :
    ∃ N, args.length ≤ N ∧ ∀ (X : Ctx) (argv gv : List Value), argv.length = args.length → Good X (argv ++ List.replicate (N - args.length) undef ++ gv) (args.map (shiftSV N) ++ List.replicate (N - args.length) .undef ++ b.map (.c .box)) NoE →
      Lands P f argv.toArray X.w fun v w' => ∃ X', X'.w = w' ∧ Goes X X' ∧ Good X' (v :: gv) (r.res :: r.boxes.map (.c .box)) NoE := by
  unfold cloneOrc at hr
  split at hr
  case h_2 => simp at hr
  rename_i fl es' rows
  split at hr
  case isFalse => simp at hr
  rename_i hcond
  obtain ⟨rfl, hlim, hpl⟩ := hcond
  have hk : keepFl T e fl rows = some (fl && !zs) := by
    unfold keepFl
    rw [h4]
    cases zs with
    | true => simp only; rw [if_pos hzs.symm, if_pos (hpl rfl)]; simp
    | false => simp only; rw [if_neg (by rw [← hzs]; simp)]; simp
  injection hr with hr; subst hr
  let E : Env := ⟨T, fun _ => none, fun _ => none, fun _ _ => [], fun _ => [], fun _ => false, fun _ => false, fun _ => false⟩
  refine body_ok hT hfn hname hb (by rw [hnt]; exact Nat.le_of_ble_eq_true rfl) fun gv X a Q hg hN hQ => ?_
  rw [hnt] at hg hN
  simp only [List.length_cons, List.length_nil, Nat.zero_add, Nat.reduceSub, List.map_cons, List.map_nil, shiftSV, List.append_nil, List.replicate, List.cons_append, List.nil_append] at hg
  have hE : E.T = T := rfl
  have hconst : constSV T ty (.slice none 0 0) = .c .one [.ow false es' []] := by simp [constSV, h1, h2]
  have hL : ∀ (rows : List (List PV)) (σ : St), σ[2]? = some (.c .one [.ow (fl && !zs) es' rows]) → Leaves T fn 0 σ ⟨.c .one [.ow (fl && !zs) es' rows], []⟩ := fun rows σ h => by
    refine ⟨(off 2 0 σ, [(false, 1)], [.ow (fl && !zs) es' rows]), off 2 0 σ, [], ?_, rfl, rfl, rfl, rfl⟩
    rw [hres, hnt]
    simp [leaveRes, resultSV, opd, List.getD_eq_getElem?_getD, h, SV.view, mapAll, CV.view, resOf, leaveAll, leaveC, weaken, persistAll, persist, keeps, keptOk, cellAt, CV.isOw]
  unfold cloneCode
  refine wp_seq (code_ok (E := E) (n := 0) hT hcall hm _ hg hN (r := (.normal, [.c .one [.sh fl (.s es' rows)], .undef, .c .one [.ow false es' []], .undef, .undef, .undef, .undef, .undef])) ?_ ?_)
  · simp [runCode, runOps, wantedSt, stepOp, giveSt, giveOf, pureOp, effOp, clear, opd, hconst, persistAll, persist, keeps, keptOk, hE, hmo, List.range, List.range.loop]
  intro a1 X1 G1 hg1 hs1 hd1
  simp only at hg1
  refine wp_seq (wp_seq (wp_region ?_))
  show wpOps P _ _ [0, 1] a1 X1.w
  refine wpOps_cons hg1 hs1.symm rfl rfl (step_ok (E := E) hT hcall hg1 hs1.symm (σ' := [.c .one [.sh fl (.s es' rows)], .undef, .c .one [.ow false es' []], .c .one [.sh fl (.s es' rows)], .undef, .undef, .undef, .undef]) ?_ ?_)
  · simp [stepOp, giveSt, giveOf, pureOp, clear, opd, SV.view, mapAll, CV.view]
  intro a2 X2 G2 hg2 hs2 hd2
  refine wpOps_cons hg2 hs2.symm rfl rfl (nil_step hT hg2 hs2.symm rfl rfl (Nat.le_of_ble_eq_true rfl) h1 (f := fl) (es := es') (rows := rows) ?_ ?_)
  · simp [clear, opd, SV.view, mapAll, CV.view]
  intro b hb0 a3 X3 G3 hg3 hs3 hd3
  simp only [clear, List.getD_cons_succ, List.getD_cons_zero, List.set_cons_succ, List.set_cons_zero] at hg3
  simp only [wpOps, Exit.then]
  cases b with
  | true =>
    have hrows : rows = [] := Classical.byContradiction fun h => by have := hb0 h; cases this
    subst hrows
    refine code_ok (E := E) (n := 0) hT hcall hm _ hg3 hs3.symm (r := (.ret, [.c .one [.sh fl (.s es' [])], .undef, .c .one [.ow false es' []], .c .one [.sh fl (.s es' [])], pvSV (.b true), .undef, .undef, .undef])) ?_ ?_
    · simp [runCode, runOps, wantedSt, stepOp, giveSt, giveOf, pureOp, effOp, clear, opd, hconst, persistAll, persist, keeps, keptOk, hE, hmo, List.range, List.range.loop, pvSV, SV.view, mapAll, CV.view, SV.bool?, SV.pv?, SV.one?, CV.p?, demoteAll, cellAt, CV.isOw, demote, mapSt, SV.mapC, demC]
    intro a4 X4 G4 hg4 hs4 hd4
    simp only at hg4
    have hg5 := good_swap hg4 (k := 2) (sh' := .one) (l' := [.ow (fl && !zs) es' []]) rfl (fun v h => by
      cases h with
      | c _ _ ws _ hfl hc =>
        cases hfl with
        | one _ hna =>
          cases hc with
          | cons _ _ _ _ _ hc ht =>
            refine .c .one _ [_] _ (.one _ hna) (.cons _ _ _ _ _ ?_ (.nil _))
            cases hc with
            | ow0 _ _ a => exact .ow0 (fl && !zs) es' a
            | ow _ _ _ _ blk off cap c elem fr h => exact .ow (fl && !zs) es' [] _ blk off cap c elem fr ⟨h.val, h.le, h.own, h.cells, h.fits, h.loose, .nil _ _ _ _ _⟩) (fun p => by cases p <;> rfl) (by simp)
    exact hQ .ret _ a4 X4 (.inr rfl) (hL [] _ rfl) (((G1.trans G2).trans G3).trans G4) hg5 (by rw [hs4, hnt]) (by rw [hd4, hd3, hd2, hd1])
  | false =>
    refine code_ok (E := E) (n := 0) hT hcall hm _ hg3 hs3.symm (r := (.normal, [.c .one [.sh fl (.s es' rows)], .undef, .c .one [.ow false es' []], .c .one [.sh fl (.s es' rows)], pvSV (.b false), .undef, .undef, .undef])) ?_ ?_
    · simp [runCode, opd, pvSV, SV.view, mapAll, CV.view, SV.bool?, SV.pv?, SV.one?, CV.p?]
    intro a4 X4 G4 hg4 hs4 hd4
    simp only [exOf, Exit.then] at hg4 ⊢
    refine code_ok (E := E) (n := 0) hT hcall hm _ hg4 hs4.symm (r := (.ret, [.c .one [.sh fl (.s es' rows)], .undef, .c .one [.ow (fl && !zs) es' rows], .c .one [.sh fl (.s es' rows)], pvSV (.b false), .c .one [.br 2 0 [] 2 0 false es' []], .c .one [.sh fl (.s es' rows)], .c .one [.br 2 0 [] 0 0 (fl && !zs) es' rows]])) ?_ ?_
    · simp [runCode, runOps, wantedSt, stepOp, giveSt, giveOf, pureOp, effOp, clear, opd, hconst, persistAll, persist, keeps, keptOk, hE, hmo, List.range, List.range.loop, pvSV, SV.view, mapAll, CV.view, demoteAll, cellAt, CV.isOw, demote, mapSt, SV.mapC, demC, h1, h2, h3, h4, hz, fillRows, appendSt, srcSt, offO, flatRows, srcOf, hk, SV.one?, CV.p?, hbs, hlim, move, mvC, epTo]
    intro a5 X5 G5 hg5 hs5 hd5
    simp only at hg5
    exact hQ .ret _ a5 X5 (.inr rfl) (hL rows _ rfl) ((((G1.trans G2).trans G3).trans G4).trans G5) hg5 (by rw [hs5, hnt]) (by rw [hd5, hd4, hd3, hd2, hd1])

theorem clone_ok {P : Program} {T : Tys} (hT : TOk P T) (hm : P.follows .mixedOrders = true) {call : CallF} (hcall : CallOk P call) {f : FuncId} {fn : Func} {ty bt e : TypeId} {es bs : Nat} {z : List PV} (hfn : P.funcs[f]? = some fn) (hname : (fn.name == "runtime.NumGoroutine") = false)
    (hb : fn.body = some (cloneCode ty bt)) (hnt : fn.ntmps = 8) (hres : fn.results = #[.tmp 2]) (h1 : T.sl ty = some e) (h2 : T.sz e = some es) (h3 : T.byt e = some bs) (h4 : T.zr e = some z) (hz : z.length = es) (hbs : bs ≠ 0) {zs : Bool} (hzs : zs = z.all PV.scalar)
    {args : List SV} {b : List (List CV)} {r : Ret} (hr : cloneOrc es bs zs call args b = some r) :
    ∃ N, args.length ≤ N ∧ ∀ (X : Ctx) (argv gv : List Value), argv.length = args.length → Good X (argv ++ List.replicate (N - args.length) undef ++ gv) (args.map (shiftSV N) ++ List.replicate (N - args.length) .undef ++ b.map (.c .box)) NoE →
      Lands P f argv.toArray X.w fun v w' => ∃ X', X'.w = w' ∧ Goes X X' ∧ Good X' (v :: gv) (r.res :: r.boxes.map (.c .box)) NoE :=
  clone_flat (T := { T with mo := false }) ⟨hT.sl, hT.sz, hT.byt, hT.ag1, hT.ag0, hT.zr, hT.fo, hT.fz, hT.fi, hT.ik, hT.str, hT.boo, hT.so⟩ rfl hm hcall hfn hname hb hnt hres h1 h2 h3 h4 hz hbs hzs hr

end Go.Proofs.YtblelojdboefjaaDoor.R

/- What is told of a sort of whole numbers. -/
set_option linter.unusedVariables false
set_option linter.unusedSimpArgs false
namespace Go.Proofs.YtblelojdboefjaaDoor.R
open Go Go.Sort Go.Shelf Go.RowKit

theorem ints_rows : ∀ {rows : List (List PV)} {l : List Int}, ints? rows = some l → rows = l.map fun x => [.i .i64 x]
  | [], l, h => by simp [ints?] at h; subst h; rfl
  | r :: rows, l, h => by
    unfold ints? at h
    split at h
    · rename_i e; cases e
    · rename_i s l' e
      injection e with e1 e2
      subst e1; subst e2
      obtain ⟨m, h1, h2⟩ := some_map h
      subst h2
      rw [ints_rows h1]
      rfl
    · simp at h

theorem put_ints {c : Array Value} {off : Nat} {l : List Int} (h : off + l.length ≤ c.size) {hp : Array Obj} {V : Nat → Prop} : RdRows hp V (putCells (Value.int .i64) off l.toArray c) off 1 (l.map fun x => [.i .i64 x]) := by
  refine RdRows.mk fun i row hi => ?_
  rw [List.getElem?_map] at hi
  obtain ⟨x, hx, rfl⟩ := some_map hi
  have hlt : i < l.length := (List.getElem?_eq_some_iff.1 hx).1
  refine ⟨rfl, RdRow.mk fun j p hj => ?_⟩
  have hj0 : j = 0 := by
    have := (List.getElem?_eq_some_iff.1 hj).1
    simp at this; exact this
  subst hj0
  simp at hj
  subst hj
  refine ⟨Value.int .i64 x, ?_, .i _ _⟩
  unfold putCells
  rw [Array.getElem?_mapIdx, Nat.mul_one, Nat.add_zero, Array.getElem?_eq_getElem (by omega), Option.map_some, if_pos ⟨by omega, by simp; omega⟩]
  congr 2
  rw [show off + i - off = i from by omega, getElem!_pos _ i (by simpa using hlt)]
  have := List.getElem?_eq_getElem hlt
  rw [hx] at this
  injection this with this
  simpa using this.symm

theorem sortInt_ok {P : Program} {ρ : Ren} (L : Lays.n189 P ρ) {fn : Func} (hf : P.funcs[ρ.f 189]? = some fn) (hn : (fn.name == "runtime.NumGoroutine") = false) {cd : Code} (hb : fn.body = some cd) : StOrcOk P (ρ.f 189) sortIntOrc := by
  intro X vs σ σ' args svs sv d hg hlen hrel h hd hown hnow hbox
  unfold sortIntOrc at h
  split at h
  case h_2 => simp at h
  rename_i s o f es rows
  split at h
  case h_2 => simp at h
  rename_i f' rows' hcell
  split at h
  case isFalse => simp at h
  rename_i hcond
  obtain ⟨l, h1, h2⟩ := some_map h
  match args, hlen with
  | [v], _ =>
  have hv : ∀ k j, CVRel X k j v (.br s o [] 0 0 f es rows) := fun k j => by
    have := hrel 0 v _ rfl rfl k
    cases this with
    | c _ _ ws _ hfl hc =>
      cases hfl with
      | one _ _ =>
        cases hc with
        | cons _ _ _ _ _ hc _ => exact any_br hc k j
  have hlr := ints_rows h1
  have hfin : ∀ {X' : Ctx} {σ2 : St}, Goes X X' → Good X' vs σ2 NoE → σ2.length = σ.length → (∀ b p q base tip, X'.own b ≠ some (d, p, q, base, tip)) → ∀ u, Good X' (vs.set d u) (σ2.set d .undef) NoE := fun {X' σ2} G g hs ho u =>
    good_set g (fun _ _ e => e.elim) (.refl X') g.inv (by rw [hs]; exact hd) (fun b t h => .inl h) (fun b q base tip => ho b 0 q base tip) (.undef u) (fun b p q base tip e => absurd e (ho b _ q base tip)) (fun b q base tip e => absurd e (ho b 0 q base tip))
  by_cases h0 : rows'.length = 0
  · rw [if_pos h0] at h2
    injection h2 with h2 h3; subst h2; subst h3
    have hr0 : rows = [] := List.length_eq_zero_iff.1 (hcond.1.trans h0)
    subst hr0
    have hva : ∃ a cap, v = .slice a 0 cap := by
      cases hv 0 0 with
      | br0 _ _ _ _ _ _ _ a => exact ⟨a, 0, rfl⟩
      | br _ _ _ _ _ _ _ _ _ blk base tip cap c elem fr h => exact ⟨_, cap, h.val⟩
    obtain ⟨a, cap, rfl⟩ := hva
    refine lands_of hf hn hb ((Any.slices_Sort_int_none L a cap X.w).mono ?_)
    rintro e w' ⟨rfl, rfl⟩
    exact ⟨X, rfl, .refl X, hfin (.refl X) hg rfl hown _⟩
  · rw [if_neg h0] at h2
    injection h2 with h2 h3; subst h2; subst h3
    obtain ⟨blk, base, cap, c, elem, fr, rfl, hle, ho, hc, hfr, hfit, hrd⟩ := look_whole hg hv hcell h0 hcond.1
    have hll : l.length = rows'.length := by rw [hlr, List.length_map]
    have hH : Holds (Value.int .i64) X.w blk base l.toArray := fun j hj => by
      have hj' : j < l.length := by simpa using hj
      obtain ⟨g1, g2⟩ := hrd.get j [.i .i64 l[j]] (by rw [hlr, List.getElem?_map, List.getElem?_eq_getElem hj']; rfl)
      obtain ⟨x, hx, hr⟩ := g2.get 0 _ rfl
      cases hr with | rd _ _ _ hr =>
      cases hr
      rw [Nat.mul_one, Nat.add_zero] at hx
      refine ⟨?_, ?_⟩
      · rw [cell_none hc, hx, getElem!_pos _ j hj]; simp
      · have := hfr (base + j) (Array.getElem?_eq_some_iff.1 hx).1
        simp only [World.frozen?, hc]
        simpa using this
    have hblk : blk < X.w.heap.size := (hg.inv.own blk _ ho).1
    have hrun := Any.slices_Sort_int L blk base cap l X.w hH hblk (by rw [hll]; exact hcond.2)
    rw [hll, ← sortInts_merge] at hrun
    refine lands_of hf hn hb (hrun.mono ?_)
    rintro e w' ⟨rfl, n, os, rfl⟩
    have hsl : (sortInts l).length = l.length := (sortBy_perm _ l).length_eq
    have hW := wrote_row (Value.int .i64) (n := n) (off := base) hc (sortInts l).toArray
    obtain ⟨G1, g1⟩ := wrote_good hg hW ho hc (by simp [putCells]) (at_root hcell) (rows' := (sortInts l).map fun x => [.i .i64 x]) (f' := false) (by rw [List.length_map, hsl, hll])
      ((put_ints (by rw [hsl, hll]; omega)).asO [] 0)
    obtain ⟨G2, g2⟩ := good_grow g1 os
    refine ⟨_, rfl, G1.trans G2, hfin (G1.trans G2) g2 (by unfold turn modS; rw [mapSt_length]) hown _⟩

end Go.Proofs.YtblelojdboefjaaDoor.R

/- What is told of slices.Compact of whole numbers. -/
set_option linter.unusedVariables false
set_option linter.unusedSimpArgs false
namespace Go.Proofs.YtblelojdboefjaaDoor.R
open Go Go.Sort Go.Shelf Go.RowKit

def lastOf : Int → List Int → Int
  | x, [] => x
  | _, y :: l => lastOf y l
theorem lastOf_get : ∀ (m : List Int) (x : Int), (x :: m)[m.length]? = some (lastOf x m)
  | [], x => rfl
  | y :: m, x => by
    rw [List.length_cons, List.getElem?_cons_succ, lastOf_get m y]; rfl
theorem squeeze_snoc (z : Int) : ∀ (l : List Int) (x : Int), squeezeFrom x (l ++ [z]) = squeezeFrom x l ++ (if z = lastOf x l then [] else [z])
  | [], x => by
    simp only [List.nil_append, squeezeFrom, lastOf]
    by_cases h : z = x <;> simp [h]
  | y :: l, x => by
    simp only [List.cons_append, squeezeFrom, lastOf]
    split
    · rename_i h
      rw [squeeze_snoc z l x]
      subst h
      rfl
    · rw [squeeze_snoc z l y]
      rfl
theorem keeps_append (l : List Int) (z : Int) (j : Nat) (h : j < l.length) : Lib.keeps (l ++ [z]).toArray j = Lib.keeps l.toArray j := by
  unfold Lib.keeps
  have e : ∀ k, k < l.length → (l ++ [z]).toArray[k]! = l.toArray[k]! := fun k hk => by
    rw [getElem!_pos _ k (by simp; omega), getElem!_pos _ k (by simpa using hk)]
    simp [List.getElem_append_left hk]
  rw [e j h, e (j - 1) (by omega)]
theorem upto_append (l : List Int) (z : Int) : ∀ m, m ≤ l.length → Lib.compactUpTo (l ++ [z]).toArray m = Lib.compactUpTo l.toArray m
  | 0, _ => rfl
  | m + 1, h => by
    have e : (l ++ [z]).toArray[m]! = l.toArray[m]! := by
      rw [getElem!_pos _ m (by simp; omega), getElem!_pos _ m (by simp; omega)]
      simp [List.getElem_append_left (show m < l.length from by omega)]
    rw [Lib.compactUpTo_succ, Lib.compactUpTo_succ, upto_append l z m (by omega), keeps_append l z m (by omega), e]
theorem compact_squeeze (l : List Int) : Lib.compact l = squeeze l := by
  have key : ∀ (n : Nat) (l : List Int), l.length = n → Lib.compactUpTo l.toArray n = squeeze l := by
    intro n
    induction n with
    | zero => intro l h; rw [List.length_eq_zero_iff.1 h]; rfl
    | succ n ih =>
      intro l h
      have hne : l ≠ [] := fun e => by rw [e] at h; simp at h
      obtain ⟨m, z, rfl⟩ : ∃ m z, l = m ++ [z] := ⟨l.dropLast, l.getLast hne, (List.dropLast_concat_getLast hne).symm⟩
      have hm : m.length = n := by simpa using h
      subst hm
      have ez : (m ++ [z]).toArray[m.length]! = z := by
        rw [getElem!_pos _ m.length (by simp)]; simp
      rw [Lib.compactUpTo_succ, upto_append m z m.length (Nat.le_refl _), ih m rfl, ez]
      cases m with
      | nil => simp [Lib.keeps, squeeze, squeezeFrom]
      | cons x m =>
        simp only [squeeze, List.cons_append, squeeze_snoc]
        have e1 : Lib.keeps (x :: (m ++ [z])).toArray (x :: m).length = decide (z ≠ lastOf x m) := by
          show Lib.keeps (x :: m ++ [z]).toArray (x :: m).length = decide (z ≠ lastOf x m)
          unfold Lib.keeps
          have e3 : (x :: m ++ [z]).toArray[(x :: m).length - 1]! = lastOf x m := by
            have h1 : (x :: m).length - 1 = m.length := by simp
            rw [h1, getElem!_pos _ m.length (by simp; omega)]
            have h2 : (x :: m ++ [z])[m.length]? = some (lastOf x m) := by
              rw [List.getElem?_append_left (by simp)]; exact lastOf_get m x
            obtain ⟨h3, h4⟩ := List.getElem?_eq_some_iff.1 h2
            simpa using h4
          rw [ez, e3]
          simp
        simp only [e1]
        by_cases hz : z = lastOf x m
        · simp [hz]
        · simp [hz]
  exact key _ l rfl
theorem squeezeFrom_le : ∀ (l : List Int) (a : Int), (squeezeFrom a l).length ≤ l.length
  | [], _ => Nat.le_refl _
  | y :: l, a => by
    unfold squeezeFrom
    split
    · exact Nat.le_succ_of_le (squeezeFrom_le l a)
    · simp only [List.length_cons]; exact Nat.succ_le_succ (squeezeFrom_le l y)
theorem squeeze_le : ∀ l : List Int, (squeeze l).length ≤ l.length
  | [] => Nat.le_refl _
  | x :: l => Nat.succ_le_succ (squeezeFrom_le l x)

theorem compactInt_ok {P : Program} {ρ : Ren} (L : Lays2.n20 P ρ) {fn : Func} (hf : P.funcs[ρ.f 20]? = some fn) (hn : (fn.name == "runtime.NumGoroutine") = false) {cd : Code} (hb : fn.body = some cd) : StOrcOk P (ρ.f 20) compactIntOrc := by
  intro X vs σ σ' args svs sv d hg hlen hrel h hd hown hnow hbox
  unfold compactIntOrc at h
  split at h
  case h_2 => simp at h
  rename_i s o f rows
  split at h
  case h_2 => simp at h
  rename_i f' rows' hcell
  split at h
  case isFalse => simp at h
  rename_i hcond
  obtain ⟨l, h1, h2⟩ := some_map h
  injection h2 with h2 h3; subst h2; subst h3
  match args, hlen with
  | [v], _ =>
  have hv : ∀ k j, CVRel X k j v (.br s o [] 0 0 f 1 rows) := fun k j => by
    have := hrel 0 v _ rfl rfl k
    cases this with
    | c _ _ ws _ hfl hc =>
      cases hfl with
      | one _ _ =>
        cases hc with
        | cons _ _ _ _ _ hc _ => exact any_br hc k j
  have hlr := ints_rows h1
  have hsd : s ≠ d := fun e => by subst e; have := hnow o; rw [hcell] at this; simp [CV.isOw] at this
  obtain ⟨blk, base, cap, c, elem, fr, rfl, hle, ho, hc, hfr, hfit, hrd⟩ := look_whole hg hv hcell hcond.2.1 hcond.1
  have hfit2 : base + cap * 1 ≤ c.size := by
    have h0 := hv 0 0
    generalize hvv : Value.slice (some ⟨blk, base, none⟩) rows'.length cap = v at h0
    cases h0 with
    | br0 _ _ _ _ _ _ _ a => injection hvv with _ h2 _; exact absurd h2 hcond.2.1
    | br _ _ _ _ _ _ _ _ _ blk2 base2 tip2 cap2 c2 elem2 fr2 h =>
      have h3 := hvv.trans h.val
      simp only [Nat.zero_mul, Nat.add_zero] at h3
      injection h3 with h4 _ h5
      injection h4 with h4
      injection h4 with h4 h6 _
      subst h4; subst h5; subst h6
      have h7 := hc.symm.trans h.cells
      injection h7 with h7; injection h7 with h7 _ _
      subst h7
      simpa using h.fits
  have hll : l.length = rows'.length := by rw [hlr, List.length_map]
  have hH : Holds (Value.int .i64) X.w blk base l.toArray := fun j hj => by
    have hj' : j < l.length := by simpa using hj
    obtain ⟨g1, g2⟩ := hrd.get j [.i .i64 l[j]] (by rw [hlr, List.getElem?_map, List.getElem?_eq_getElem hj']; rfl)
    obtain ⟨x, hx, hr⟩ := g2.get 0 _ rfl
    cases hr with | rd _ _ _ hr =>
    cases hr
    rw [Nat.mul_one, Nat.add_zero] at hx
    refine ⟨?_, ?_⟩
    · rw [cell_none hc, hx, getElem!_pos _ j hj]; simp
    · have := hfr (base + j) (Array.getElem?_eq_some_iff.1 hx).1
      simp only [World.frozen?, hc]
      simpa using this
  have hrun := Any.slices_Compact_int L blk base cap l X.w hH (by omega) (by omega)
  rw [hll, compact_squeeze] at hrun
  have hsl := squeeze_le l
  obtain ⟨sq, hsq⟩ : ∃ sq, squeeze l ++ List.replicate (l.length - (squeeze l).length) 0 = sq := ⟨_, rfl⟩
  have hsql : sq.length = l.length := by rw [← hsq]; simp; omega
  refine lands_of hf hn hb (hrun.mono ?_)
  rintro e w' ⟨rfl, n, rfl⟩
  rw [← hll, hsq]
  have hW := wrote_row (Value.int .i64) (n := n) (off := base) hc sq.toArray
  have hput : ∀ {hp : Array Obj} {V : Nat → Prop}, RdRows hp V (putCells (Value.int .i64) base sq.toArray c) base 1 (sq.map fun x => [.i .i64 x]) := put_ints (by rw [hsql, hll]; omega)
  obtain ⟨G1, g1⟩ := wrote_good hg hW ho hc (by simp [putCells]) (at_root hcell) (rows' := sq.map fun x => [.i .i64 x]) (f' := false) (by rw [List.length_map, hsql, hll]) (hput.asO [] 0)
  generalize hw1 : putRow (Value.int .i64) (Sort.ahead X.w n) blk base sq.toArray = w1 at *
  have hcs : (cellAt (turn s o [] 1 false (sq.map fun x => [.i .i64 x]) σ) s o).isOw = true := by
    unfold turn modS
    rw [cellAt_map_ow _ _ σ s o (modC_dead s o _ _ _ s o) (by rw [hcell]; rfl), hcell]
    have : rows'.length = (sq.map fun x => [PV.i .i64 x]).length := by rw [List.length_map, hsql, hll]
    simp [modC, modP, setRows, this, owBy, CV.isOw]
  let T : Path → Nat → Nat → Option Own := fun q base _ => match q with
    | [] => some (d, 1, [], base, (squeeze l).length)
    | _ :: _ => none
  have hT : ∀ q base tip t, T q base tip = some t → t.1 = d ∧ t.2.1 = 0 + 1 := fun q base tip t ht => by
    cases q with
    | nil => injection ht with ht; subst ht; exact ⟨rfl, rfl⟩
    | cons a r => simp [T] at ht
  have hgood : Good ((X.turned w1).retag s o T False) vs (off s o (turn s o [] 1 false (sq.map fun x => [.i .i64 x]) σ)) (fun a b => NoE a b ∨ (a = d ∧ b = 0)) := by
    refine ⟨g1.inv.retag ?_ ?_, g1.frame.map (maps_off (X.turned w1) s o T False), (tags_retag (E := NoE) (s' := d) (o' := 0) g1.tags (offC_dead s o) (fun k j c hc hn => offC_ow hc hn) fun q base tip t ht => .inl (hT q base tip t ht)).cell, (tags_retag (E := NoE) (s' := d) (o' := 0) g1.tags (offC_dead s o) (fun k j c hc hn => offC_ow hc hn) fun q base tip t ht => .inl (hT q base tip t ht)).box⟩
    · intro q base tip s1 p1 q1 base1 tip1 ht _ b base2 tip2
      have := hT q base tip _ ht
      simp only at this
      obtain ⟨e1, e2⟩ := this
      subst e1; subst e2
      exact hown b _ q1 base2 tip2
    · intro b1 b2 q1 base1 tip1 q2 base2 tip2 s1 p1 q3 base3 tip3 base4 tip4 _ _ h1 h2
      cases q1 with
      | nil =>
        cases q2 with
        | nil => rfl
        | cons a r => simp [T] at h2
      | cons a r => simp [T] at h1
  have hG2 : Goes (X.turned w1) ((X.turned w1).retag s o T False) := goes_retag (X.turned w1) s o T False
  have hlen2 : (off s o (turn s o [] 1 false (sq.map fun x => [.i .i64 x]) σ)).length = σ.length := by
    unfold off turn modS; rw [mapSt_length, mapSt_length]
  have hown2 : ((X.turned w1).retag s o T False).own blk = some (d, 1, [], base, (squeeze l).length) := by
    have h9 : (X.turned w1).own blk = some (s, o + 1, [], base, rows'.length) := ho
    rw [retag_same h9]
  refine ⟨(X.turned w1).retag s o T False, rfl, G1.trans hG2, ?_⟩
  have hcases : ∀ b p q b1 t1, ((X.turned w1).retag s o T False).own b = some (d, p, q, b1, t1) → p = 1 := fun b p q b1 t1 e => by
    rcases retag_own_cases (Q := False) e with ⟨h2, _⟩ | ⟨p', b2, t2, _, h3⟩
    · exact absurd h2 (hown b p q b1 t1)
    · have := (hT p' b2 t2 _ h3).2
      simpa using this
  refine good_set hgood (fun a b e => e.elim (fun e => e.elim) fun e => e.1) (.refl _) hgood.inv (by rw [hlen2]; exact hd) (fun b t h => .inl h) (fun b q base tip e => by have := hcases _ _ _ _ _ e; omega) (.c .one _ [_] _ (.one _ (fun cs e => nomatch e)) (.cons 0 _ _ _ _ (.ow f' 1 _ _ blk base cap _ elem fr ⟨?_, ?_, ?_, hW.at_, ?_, ?_, ?_⟩) (.nil 1))) ?_ ?_
  · rw [List.length_map]
  · rw [List.length_map]; omega
  · rw [List.length_map]; exact hown2
  · have : (putCells (Value.int .i64) base sq.toArray c).size = c.size := by simp [putCells]
    rw [this]; exact hfit2
  · have : (putCells (Value.int .i64) base sq.toArray c).size = c.size := by simp [putCells]
    rw [this]; exact hfr
  · have h9 : RdRows w1.heap (((X.turned w1).retag s o T False).V f') (putCells (Value.int .i64) base sq.toArray c) base 1 ((squeeze l).map fun x => [.i .i64 x]) := RdRows.mk fun i row hi => by
      refine (hput (hp := w1.heap) (V := ((X.turned w1).retag s o T False).V f')).get i row ?_
      rw [← hsq, List.map_append, List.getElem?_append_left (List.getElem?_eq_some_iff.1 hi).1]
      exact hi
    exact h9.asO [] 0
  · intro b p q base2 tip2 e
    have := hcases _ _ _ _ _ e
    have hp : p = 0 := by omega
    subst hp
    rfl
  · intro b q base2 tip2 e
    have := hcases _ _ _ _ _ e
    omega

end Go.Proofs.YtblelojdboefjaaDoor.R

/- What is told of slices.Grow of nothing. -/
set_option linter.unusedVariables false
set_option linter.unusedSimpArgs false
namespace Go.Proofs.YtblelojdboefjaaDoor.R
open Go Go.Sort Go.Shelf Go.RowKit

theorem grow_ok {P : Program} {T : Tys} (hT : TOk P T) {ρ : Ren} (L : Lays8.n4 P ρ) {es bs : Nat} (h2 : T.sz (ρ.t 25) = some es) (h3 : T.byt (ρ.t 25) = some bs) {z : List PV} (h4 : T.zr (ρ.t 25) = some z) (hes : 0 < es) (hz : z.length = es) {fn : Func} (hf : P.funcs[ρ.f 4]? = some fn) (hn : (fn.name == "runtime.NumGoroutine") = false) {cd : Code} (hb : fn.body = some cd) : StOrcOk P (ρ.f 4) (growOrc es bs) := by
  intro X vs σ σ' args svs sv d hg hlen hrel h hd hown hnow hbox
  unfold growOrc at h
  split at h
  case h_2 => simp at h
  rename_i f es' f2 n
  split at h
  case isFalse => simp at h
  rename_i hcond
  injection h with h; injection h with h5 h6; subst h5; subst h6
  match args, hlen with
  | [v, u], _ =>
  have hv : ∃ a, v = .slice a 0 0 := by
    have h0 := hrel 0 v _ rfl rfl 0
    cases h0 with
    | c _ _ ws _ hfl hc =>
      cases hfl with
      | one _ _ =>
        cases hc with
        | cons _ _ _ _ _ hc _ =>
          have : ∀ k, CVRel X k 0 v (.ow f es' []) := fun k => by
            have h0 := hrel 0 v _ rfl rfl k
            cases h0 with
            | c _ _ ws _ hfl hc =>
              cases hfl with
              | one _ _ =>
                cases hc with
                | cons _ _ _ _ _ hc _ => exact hc
          exact (no_ow this).2
  have hu : u = .int .i64 n := by
    have h0 := hrel 1 u _ rfl rfl 0
    cases h0 with
    | c _ _ ws _ hfl hc =>
      cases hfl with
      | one _ _ =>
        cases hc with
        | cons _ _ _ _ _ hc _ =>
          cases hc with
          | sh _ _ _ h =>
            have := cell_rd h
            cases this; rfl
  obtain ⟨a, rfl⟩ := hv
  subst hu
  obtain ⟨m, rfl⟩ : ∃ m : Nat, n = m := ⟨n.toNat, by omega⟩
  obtain ⟨i, hi, hi2⟩ := hT.sz _ _ h2
  obtain ⟨i', hi', hi3⟩ := hT.byt _ _ h3
  obtain ⟨i'', zv, hi'', hz1, hz2, _⟩ := hT.zr _ _ h4
  rw [hi] at hi' hi''
  injection hi' with hi'; injection hi'' with hi''
  subst hi'; subst hi''
  have hbare : Bare X σ d := ⟨fun p b q base tip => hown b _ q base tip, fun b q base tip => hown b 0 q base tip, hnow, hbox⟩
  have hm : m ≤ LIM := by omega
  have hmb : m * bs ≤ LIM := by
    have := hcond.2.2
    exact_mod_cast this
  unfold LIM at hm hmb
  by_cases h0 : m = 0
  · subst h0
    refine lands_of hf hn hb ((Any8.slices_Grow_room L a 0 0 0 X.w (Nat.le_refl _) (by omega) (by omega) (by omega)).mono ?_)
    rintro e w' ⟨rfl, rfl⟩
    have hE := eff_pure hg hbare hd (PureRes.same (d := d) hg.inv (v := .slice a 0 0) (sv := .c .one [.ow false es []]) fun k => .c .one _ [_] _ (.one _ (fun cs e => nomatch e)) (.cons 0 _ _ _ _ (.ow0 false es a) (.nil 1)))
    exact ⟨X, rfl, hE.goes, hE.good⟩
  · have hzs : zv.cells.size = z.length := by
      have := congrArg List.length hz2
      simpa using this
    have hrun := Any8.slices_Grow_grow L i zv hi hz1 (by omega) a 0 0 m [] X.w (Nat.le_refl _) (by omega) (by rw [Nat.zero_add, hi3]; omega) (by omega) (by simp) (fun _ => rfl) (fun a _ j v hj => by simp at hj)
    refine lands_of hf hn hb (hrun.mono ?_)
    rintro e w' ⟨rfl, rfl⟩
    have hge := grownCap_ge X.w (0 + m) 0 (ρ.t 25)
    have hsz : (([] : List Value).toArray ++ Builtin.zeroCells zv.cells (0 + m - 0) ++ Builtin.zeroCells zv.cells (grownCap X.w (0 + m) 0 (ρ.t 25) - (0 + m))).size = grownCap X.w (0 + m) 0 (ρ.t 25) * i.size := by
      rw [Array.size_append, Array.size_append, zeroCells_size, zeroCells_size]
      have h9 : zv.cells.size = i.size := by
        omega
      rw [h9]
      simp only [List.size_toArray, List.length_nil, Nat.zero_add, Nat.sub_zero]
      rw [← Nat.add_mul]
      congr 1
      rw [Nat.zero_add] at hge
      omega
    generalize hob : ([] : List Value).toArray ++ Builtin.zeroCells zv.cells (0 + m - 0) ++ Builtin.zeroCells zv.cells (grownCap X.w (0 + m) 0 (ρ.t 25) - (0 + m)) = ob at *
    have hp : Pushes X.w (X.w.drew.alloc (.cells ob (ρ.t 25))) (.cells ob (ρ.t 25) (0, 0)) := ⟨rfl, rfl, rfl, rfl⟩
    have hE := eff_pure hg hbare hd (pure_made (f := false) (es := es) (cap := grownCap X.w (0 + m) 0 (ρ.t 25)) (rows := []) hg.inv (hbare.1 0) hp (free0 _) (Nat.zero_le _) (by rw [hsz, hi2]; exact Nat.le_refl _) (fun X' _ _ => .nil _ _ _ _ _))
    exact ⟨_, rfl, hE.goes, hE.good⟩

end Go.Proofs.YtblelojdboefjaaDoor.R
