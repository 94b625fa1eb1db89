/- The operations that do nothing but answer: addresses and loads. -/
import Derived.Test.YtlbigobmhglppaaR9
set_option linter.unusedVariables false
set_option linter.unusedSimpArgs false
namespace Go.Proofs.Ytlbigobmhglppaa.R
open Go

theorem add_none (b o n : Nat) : (⟨b, o, none⟩ : Addr).add n = ⟨b, o + n, none⟩ := by
  unfold Addr.add; split <;> simp_all

theorem cell_none {w : World} {b o : Nat} {c : Array Value} {e : TypeId} {fr : Nat × Nat} (h : w.heap[b]? = some (.cells c e fr)) : w.cell? ⟨b, o, none⟩ = c[o]? := by
  simp [World.cell?, h]

theorem run_isAgg1 {P : Program} {w : World} {t : TypeId} {fs : Array Field} (h : P.underlying t = some (.struct fs)) : (isAgg t).run P w = .ok true w := by
  simp [isAgg, run_und h]
theorem run_isAgg0 {P : Program} {w : World} {t : TypeId} {d : TypeDesc} (h : P.underlying t = some d) (hd : isAgB d = false) : (isAgg t).run P w = .ok false w := by
  simp only [isAgg, Sem.run_bind, run_und h, Result.andThen_ok]
  cases d <;> first | rfl | simp [isAgB] at hd

theorem run_loadVar {P : Program} {T : Tys} (hT : TOk P T) {w : World} {t : TypeId} {n : Nat} {ag : Bool} (hs : T.sz t = some n) (ha : T.ag t = some ag) (h1 : ag = false → n = 1) {b o : Nat} {vs : List Value} (hl : vs.length = n)
    (hc : ∀ j v, vs[j]? = some v → w.cell? ⟨b, o + j, none⟩ = some v) : ∃ v, (loadVar t ⟨b, o, none⟩).run P w = .ok v w ∧ ((ag = true ∧ v = .agg vs.toArray) ∨ (ag = false ∧ vs = [v])) := by
  obtain ⟨i, hi, hn⟩ := hT.sz t n hs
  cases ag with
  | true =>
    obtain ⟨fs, hu⟩ := hT.ag1 t ha
    refine ⟨.agg vs.toArray, ?_, .inl ⟨rfl, rfl⟩⟩
    simp only [loadVar, Sem.run_bind, run_isAgg1 hu, Result.andThen_ok, if_true, run_siz hi, hn]
    rw [← hl, run_loadCells_list w ⟨b, o, none⟩ vs (fun j v h => by rw [add_none]; exact hc j v h)]
    rfl
  | false =>
    obtain ⟨d, hu, hd⟩ := hT.ag0 t ha
    have h1 := h1 rfl
    cases vs with
    | nil => simp at hl; omega
    | cons v r =>
      have : r = [] := by cases r with | nil => rfl | cons _ _ => simp at hl; omega
      subst this
      refine ⟨v, ?_, .inr ⟨rfl, rfl⟩⟩
      have h0 := hc 0 v rfl
      simp only [loadVar, Sem.run_bind, run_isAgg0 hu hd, Result.andThen_ok, Bool.false_eq_true, if_false, run_load]
      rw [show w.cell? ⟨b, o, none⟩ = some v from h0]

theorem sure_ok {P : Program} {w : World} (a : Addr) : (Instr.sureAddr (.pointer (some a))).run P w = .ok a w := rfl

theorem field_sv {P : Program} {T : Tys} (hT : TOk P T) {X : Ctx} {t : TypeId} {f : Nat} {v : Value} {x y : SV} (hx : OSV X v x) (h : fieldSV T t x f = some y) : ∃ v', (Instr.fieldAt t v f).run P X.w = .ok v' X.w ∧ OSV X v' y := by
  unfold fieldSV at h
  cases e : T.fo t f with
  | none => simp [e] at h
  | some d =>
    obtain ⟨fs, fl, i, hu, hf, ho, hi, hz⟩ := hT.fo t f d e
    have run : ∀ b o, (Instr.fieldAt t (.pointer (some ⟨b, o, none⟩)) f).run P X.w = .ok (.pointer (some ⟨b, o + d, none⟩)) X.w := fun b o => by
      simp [Instr.fieldAt, run_und hu, hf, sure_ok, fieldPlace, run_siz hi, hz, add_none, ho]
    simp only [e, Option.bind_some] at h
    split at h
    · injection h with h; subst h
      rename_i s o
      have h0 := hx 0
      cases h0 with
      | bp _ _ blk base tip ho' =>
        refine ⟨_, run blk o, fun k => ?_⟩
        exact .bp s (o + d) blk base tip ho'
    · injection h with h; subst h
      rename_i s o kd fl es i f row
      have h0 := hx 0
      cases h0 with
      | ep _ _ _ _ _ _ _ _ blk off base tip c elem fr ho he hl hb hfr hr =>
        refine ⟨_, run blk _, fun k => ?_⟩
        rw [Nat.add_assoc]
        exact .ep s o kd fl es i (f + d) row blk off base tip c elem fr ho he hl hb hfr hr
      | epv _ _ _ _ _ _ _ blk off c elem fr hv hb hr =>
        refine ⟨_, run blk _, fun k => ?_⟩
        rw [Nat.add_assoc]
        exact .epv s o fl es i (f + d) row blk off c elem fr hv hb hr
    · injection h with h; subst h
      rename_i fl row f
      have h0 := hx 0
      cases h0 with
      | sp _ _ _ blk off c elem fr hv hb hr =>
        refine ⟨_, run blk _, fun k => ?_⟩
        rw [Nat.add_assoc]
        exact .sp fl row (f + d) blk off c elem fr hv hb hr
    · simp at h

theorem run_index {P : Program} {T : Tys} (hT : TOk P T) {w : World} {t : TypeId} {es : Nat} (ht : (T.sl t).bind T.sz = some es) {b off n cap : Nat} {k : IntKind} {i : Int} (h0 : 0 ≤ i) (h1 : i.toNat < n) :
    (Instr.indexAt t (.slice (some ⟨b, off, none⟩) n cap) (.int k i)).run P w = .ok (.pointer (some ⟨b, off + i.toNat * es, none⟩)) w := by
  cases e : T.sl t with
  | none => simp [e] at ht
  | some el =>
    simp only [e, Option.bind_some] at ht
    have hu := hT.sl t el e
    obtain ⟨inf, hi, hn⟩ := hT.sz el es ht
    have hlt : i < (n : Int) := by omega
    simp only [Instr.indexAt, asIntOf, Sem.run_bind, Sem.run_pure, Result.andThen_ok, run_und hu]
    rw [if_pos ⟨h0, hlt⟩]
    simp [run_siz hi, hn, add_none, run_und hu]

theorem index_sv {P : Program} {T : Tys} (hT : TOk P T) {X : Ctx} {t : TypeId} {v vi : Value} {x ix y : SV} (hx : OSV X v x) (hix : OSV X vi ix) (h : indexSV T t x ix = some y) : ∃ v', (Instr.indexAt t v vi).run P X.w = .ok v' X.w ∧ OSV X v' y := by
  unfold indexSV at h
  cases e1 : x.one? with
  | none => simp [e1] at h
  | some c =>
    cases e2 : ix.int? with
    | none => simp [e1, e2] at h
    | some ki =>
      obtain ⟨k, i⟩ := ki
      simp only [e1, e2, Option.bind_some] at h
      have hvi := int_sv hix e2
      subst hvi
      obtain ⟨hc, _⟩ := one_sv hx e1
      split at h
      · rename_i f es rows
        split at h
        · rename_i ht
          split at h
          · rename_i h0
            cases e3 : rows[i.toNat]? with
            | none => simp [e3] at h
            | some row =>
              simp only [e3, Option.map_some] at h
              injection h with h; subst h
              have hlt := (List.getElem?_eq_some_iff.1 e3).1
              have hc0 := hc 0
              cases hc0 with
              | sh _ _ _ hr =>
                cases hr with
                | s0 => simp at hlt
                | s blk off n cap _ cc elem fr _ hv hb hn hcap hr =>
                  subst hn
                  refine ⟨_, run_index hT ht h0 hlt, fun k => ?_⟩
                  have := SVRel.sp (k := k) f row 0 blk (off + i.toNat * es) cc elem fr hv hb (hr.get _ _ e3).2
                  exact this
          · simp at h
        · simp at h
      · rename_i s o kd lo f es rows
        split at h
        · rename_i ht
          split at h
          · rename_i h0
            cases e3 : rows[i.toNat]? with
            | none => simp [e3] at h
            | some row =>
              simp only [e3, Option.map_some] at h
              injection h with h; subst h
              have hlt := (List.getElem?_eq_some_iff.1 e3).1
              have hc0 := hc 0
              cases hc0 with
              | br0 => simp at hlt
              | br _ _ _ _ _ _ _ _ blk base tip cap cc elem fr hb =>
                rw [hb.val]
                refine ⟨_, run_index hT ht h0 hlt, fun k => ?_⟩
                have g := hb.reads.get _ _ e3
                have := SVRel.ep (k := k) s o kd f es (lo + i.toNat) 0 row blk (base + lo * es + i.toNat * es) base tip cc elem fr hb.own (by rw [Nat.add_mul]; omega) g.1 hb.cells hb.loose g.2
                exact this
              | brv _ _ _ _ _ _ _ hr =>
                cases hr with
                | s0 => simp at hlt
                | s blk off n cap _ cc elem fr _ hv hb hn hcap hr =>
                  subst hn
                  refine ⟨_, run_index hT ht h0 hlt, fun k => ?_⟩
                  have := SVRel.epv (k := k) s o f es (lo + i.toNat) 0 row blk (off + i.toNat * es) cc elem fr hv hb (hr.get _ _ e3).2
                  exact this
          · simp at h
        · simp at h
      · simp at h

theorem mem_of_row {X : Ctx} {V : Nat → Prop} {c : Array Value} {off : Nat} {row : List PV} (h : RdRow X.w.heap V c off row) (f n : Nat) (hf : f + n ≤ row.length) :
    ∃ vs : List Value, vs.length = n ∧ (∀ (j : Nat) (v : Value), vs[j]? = some v → c[off + f + j]? = some v) ∧ ∀ (j : Nat) (v : Value) (p : PV), vs[j]? = some v → ((row.drop f).take n)[j]? = some p → Rd X.w.heap V v p := by
  refine ⟨(List.range n).map fun j => (c[off + f + j]?).getD undef, by simp, ?_, ?_⟩
  · intro j v hv
    rw [List.getElem?_map] at hv
    cases e : (List.range n)[j]? with
    | none => simp [e] at hv
    | some k =>
      have hk := List.getElem?_eq_some_iff.1 e
      obtain ⟨hj, hk⟩ := hk
      simp at hk hj; subst hk
      simp [e] at hv
      obtain ⟨x, hx, _⟩ := h.get (f + j) _ (List.getElem?_eq_getElem (by omega))
      rw [show off + (f + j) = off + f + j from by omega] at hx
      rw [hx] at hv ⊢
      simpa using hv
  · intro j v p hv hp
    rw [List.getElem?_map] at hv
    cases e : (List.range n)[j]? with
    | none => simp [e] at hv
    | some k =>
      obtain ⟨hj, hk⟩ := List.getElem?_eq_some_iff.1 e
      simp at hk hj; subst hk
      simp [e] at hv
      rw [List.getElem?_take] at hp
      rw [if_pos hj, List.getElem?_drop] at hp
      obtain ⟨x, hx, hr⟩ := h.get (f + j) p hp
      rw [show off + (f + j) = off + f + j from by omega] at hx
      rw [hx] at hv
      simp at hv; subst hv
      exact hr

theorem row_cells {X : Ctx} {fl : Bool} : ∀ {vs : List Value} {row : List PV}, vs.length = row.length → (∀ (j : Nat) (v : Value) (p : PV), vs[j]? = some v → row[j]? = some p → Rd X.w.heap (X.V fl) v p) →
    VCells X vs (row.map fun p => .sh (!p.scalar && fl) p)
  | [], [], _, _ => .nil
  | [], _ :: _, h, _ => by simp at h
  | _ :: _, [], h, _ => by simp at h
  | v :: vs, p :: row, h, hr => by
    refine .cons v _ vs _ (fun k j => .sh _ p v ?_) (row_cells (by simpa using h) fun j v p h1 h2 => hr (j + 1) v p (by simpa using h1) (by simpa using h2))
    have := hr 0 v p rfl rfl
    cases hs : p.scalar with
    | true => exact this.scalar hs
    | false => simpa [hs] using this

theorem shaped {X : Ctx} {ag : Bool} {v : Value} {vs : List Value} {l : List CV} (h : (ag = true ∧ v = .agg vs.toArray) ∨ (ag = false ∧ vs = [v])) (hn : ag = false → ∀ cs, v ≠ .agg cs) (hc : VCells X vs l) : OSV X v (.c (if ag then .agg else .one) l) := by
  rcases h with ⟨rfl, rfl⟩ | ⟨rfl, rfl⟩
  · exact osv_mk (by simpa using Flat.agg vs.toArray) hc
  · exact osv_mk (.one v (hn rfl)) hc

theorem cv_not_agg {X : Ctx} {k j : Nat} {v : Value} {c : CV} (h : CVRel X k j v c) (hd : c ≠ .dead) : ∀ cs, v ≠ .agg cs := by
  intro cs e
  cases h with
  | sh f p v h => exact not_agg_of_rd h cs e
  | ow0 => cases e
  | ow f es rows v blk off cap c elem fr h => rw [h.val] at e; cases e
  | br0 => cases e
  | br s o kd lo f es rows v blk base tip cap c elem fr h => rw [h.val] at e; cases e
  | brv s o lo f es rows v h => exact not_agg_of_rd h cs e
  | dead => exact hd rfl

theorem part_some {n j : Nat} {l r : List CV} (h : part n j l = some r) : j + n ≤ l.length ∧ r = (l.drop j).take n := by
  unfold part at h
  split at h
  · rename_i hle; injection h with h; exact ⟨hle, h.symm⟩
  · simp at h

theorem box_at {X : Ctx} {vs : List Value} {σ : St} {E : Nat → Nat → Prop} (h : Good X vs σ E) {s : Nat} {l : List CV} (hs : σ.getD s .undef = .c .box l) :
    ∃ blk base tip c elem fr, X.own blk = some (s, 0, base, tip) ∧ X.w.heap[blk]? = some (.cells c elem fr) ∧ free fr c.size ∧ CellsRel X s 0 c.toList l ∧ vs[s]? = some (.pointer (some ⟨blk, 0, none⟩)) := by
  rw [List.getD_eq_getElem?_getD] at hs
  cases e : σ[s]? with
  | none => rw [e] at hs; simp at hs
  | some x =>
    rw [e] at hs
    simp at hs
    subst hs
    have hlt := (List.getElem?_eq_some_iff.1 e).1
    have hlt' : s < vs.length := by rw [h.frame.1]; exact hlt
    have hv := List.getElem?_eq_getElem hlt'
    have := h.frame.2 s _ _ hv e
    generalize vs[s] = v at *
    cases this with
    | c _ _ _ _ hf _ => cases hf
    | box blk base tip c elem fr l ho hb hfr hc => exact ⟨blk, base, tip, c, elem, fr, ho, hb, hfr, hc, hv⟩

theorem load_sv {P : Program} {T : Tys} (hT : TOk P T) {X : Ctx} {vs : List Value} {σ : St} {E : Nat → Nat → Prop} (hg : Good X vs σ E) {t : TypeId} {v : Value} {x y : SV} (hx : OSV X v x) (h : loadSV T σ t x = some y) :
    ∃ v', (Instr.loadAt t v).run P X.w = .ok v' X.w ∧ OSV X v' y := by
  unfold loadSV at h
  cases e1 : T.sz t with
  | none => simp [e1] at h
  | some n =>
    cases e2 : T.ag t with
    | none => simp [e1, e2] at h
    | some ag =>
      simp only [e1, e2, Option.bind_some] at h
      split at h
      · simp at h
      rename_i hn1
      have hn : ag = false → n = 1 := fun e => by
        by_cases h1 : n = 1
        · exact h1
        · exact absurd ⟨e, h1⟩ hn1
      split at h
      · rename_i s o
        split at h
        · rename_i l hl
          obtain ⟨blk, base, tip, c, elem, fr, ho, hb, hfr, hc, hv⟩ := box_at hg hl
          cases e3 : part n o (mapAll (CV.view s) 0 l) with
          | none => simp [e3] at h
          | some r =>
            simp only [e3, Option.bind_some] at h
            split at h
            case isFalse => simp at h
            rename_i hdead
            injection h with h
            obtain ⟨hle, hr⟩ := part_some e3
            have h0 := hx 0
            cases h0 with
            | bp _ _ blk' base' tip' ho' =>
              have e4 := hg.inv.one _ _ _ _ _ _ _ _ ho' ho
              subst e4
              have hvc : VCells X ((c.toList.drop o).take n) r := by rw [hr]; exact (VCells.view hc).drop o |>.take n
              have hlen : ((c.toList.drop o).take n).length = n := by rw [hvc.length, hr]; simp; omega
              obtain ⟨v', hrun, hsh⟩ := run_loadVar (P := P) hT (w := X.w) e1 e2 hn (b := blk') (o := o) hlen (fun j v hj => by
                rw [cell_none hb]
                rw [List.getElem?_take] at hj
                split at hj
                · rw [List.getElem?_drop] at hj; simpa using hj
                · simp at hj)
              refine ⟨v', by simp only [Instr.loadAt, Sem.run_bind, sure_ok, Result.andThen_ok]; exact hrun, ?_⟩
              subst h
              refine shaped hsh (fun e cs hcs => ?_) hvc
              subst e
              rcases hsh with ⟨e, _⟩ | ⟨_, e⟩
              · cases e
              · rw [e] at hvc
                cases hvc with
                | cons _ c1 _ _ hc1 ht =>
                  cases ht
                  have hne : c1 ≠ .dead := fun e => by subst e; simp [CV.isDead] at hdead
                  exact cv_not_agg (hc1 0 0) hne cs hcs
        · simp at h
      · rename_i s o kd fl es i f row
        split at h
        · rename_i hle
          injection h with h; subst h
          have h0 := hx 0
          have key : ∀ (blk off : Nat) (c : Array Value) (elem : TypeId) (fr : Nat × Nat), X.w.heap[blk]? = some (.cells c elem fr) → RdRow X.w.heap (X.V fl) c off row →
              ∃ v', (Instr.loadAt t (.pointer (some ⟨blk, off + f, none⟩))).run P X.w = .ok v' X.w ∧ OSV X v' (.c (if ag then .agg else .one) (((row.drop f).take n).map fun p => .sh (!p.scalar && fl) p)) := by
            intro blk off c elem fr hb hr
            obtain ⟨ws, h1, h2, h3⟩ := mem_of_row hr f n hle
            obtain ⟨v', hrun, hsh⟩ := run_loadVar (P := P) hT (w := X.w) e1 e2 hn (b := blk) (o := off + f) h1 (fun j v hj => by rw [cell_none hb]; exact h2 j v hj)
            have hvc := row_cells (X := X) (fl := fl) (vs := ws) (row := (row.drop f).take n) (by rw [h1]; simp; omega) h3
            refine ⟨v', by simp only [Instr.loadAt, Sem.run_bind, sure_ok, Result.andThen_ok]; exact hrun, shaped hsh (fun e cs hcs => ?_) hvc⟩
            rcases hsh with ⟨e', _⟩ | ⟨_, e'⟩
            · subst e; cases e'
            · have hp : ((row.drop f).take n)[0]? = some (((row.drop f).take n)[0]'(by rw [List.length_take, List.length_drop]; have := hn e; omega)) := List.getElem?_eq_getElem _
              exact not_agg_of_rd (h3 0 v' _ (by rw [e']; rfl) hp) cs hcs
          cases h0 with
          | ep _ _ _ _ _ _ _ _ blk off base tip c elem fr ho he hl hb hfr hr => obtain ⟨v', h1, h2⟩ := key blk _ c elem fr hb hr; exact ⟨v', h1, h2⟩
          | epv _ _ _ _ _ _ _ blk off c elem fr hv hb hr => obtain ⟨v', h1, h2⟩ := key blk _ c elem fr hb hr; exact ⟨v', h1, h2⟩
        · simp at h
      · rename_i fl row f
        split at h
        · rename_i hle
          injection h with h; subst h
          have h0 := hx 0
          cases h0 with
          | sp _ _ _ blk off c elem fr hv hb hr =>
            obtain ⟨ws, h1, h2, h3⟩ := mem_of_row hr f n hle
            obtain ⟨v', hrun, hsh⟩ := run_loadVar (P := P) hT (w := X.w) e1 e2 hn (b := blk) (o := off + f) h1 (fun j v hj => by rw [cell_none hb]; exact h2 j v hj)
            have hvc := row_cells (X := X) (fl := fl) (vs := ws) (row := (row.drop f).take n) (by rw [h1]; simp; omega) h3
            refine ⟨v', by simp only [Instr.loadAt, Sem.run_bind, sure_ok, Result.andThen_ok]; exact hrun, shaped hsh (fun e cs hcs => ?_) hvc⟩
            rcases hsh with ⟨e', _⟩ | ⟨_, e'⟩
            · subst e; cases e'
            · have hp : ((row.drop f).take n)[0]? = some (((row.drop f).take n)[0]'(by rw [List.length_take, List.length_drop]; have := hn e; omega)) := List.getElem?_eq_getElem _
              exact not_agg_of_rd (h3 0 v' _ (by rw [e']; rfl) hp) cs hcs
        · simp at h
      · simp at h

end Go.Proofs.Ytlbigobmhglppaa.R
