/- The operations that do nothing but answer: parts of results, literals, new rows; and all of them together. -/
import Derived.Test.YtlbigobmhglppaaR12
import Derived.IntWalk
set_option linter.unusedVariables false
set_option linter.unusedSimpArgs false
namespace Go.Proofs.Ytlbigobmhglppaa.R
open Go

theorem vcells_split {X : Ctx} : ∀ {vs ws : List Value} {l : List CV}, VCells X (vs ++ ws) l → VCells X vs (l.take vs.length) ∧ VCells X ws (l.drop vs.length)
  | [], ws, l, h => ⟨by simpa using VCells.nil, by simpa using h⟩
  | v :: vs, ws, l, h => by
    cases h with
    | cons _ c _ l hc ht =>
      obtain ⟨h1, h2⟩ := vcells_split ht
      exact ⟨by simpa using VCells.cons v c _ _ hc h1, by simpa using h2⟩

theorem comp_sv {X : Ctx} : ∀ {s : List (Bool × Nat)} {i : Nat} {vs : List Value} {fs : List (List Value)} {l : List CV} {y : SV}, fs.length = s.length → vs.length = s.length →
    (∀ (i : Nat) (v : Value) (a : Bool) (n : Nat) (f : List Value), vs[i]? = some v → s[i]? = some (a, n) → fs[i]? = some f → f.length = n ∧ ((a = true ∧ ∃ cs : Array Value, v = .agg cs ∧ f = cs.toList) ∨ (a = false ∧ f = [v] ∧ ∀ cs, v ≠ .agg cs))) →
    VCells X fs.flatten l → comp i s l = some y → ∃ v, vs[i]? = some v ∧ OSV X v y
  | [], i, vs, fs, l, y, h1, h2, h3, hc, h => by simp [comp] at h
  | (a, n) :: s, i, vs, fs, l, y, h1, h2, h3, hc, h => by
    cases fs with
    | nil => simp at h1
    | cons f fs =>
      cases vs with
      | nil => simp at h2
      | cons v vs =>
        obtain ⟨hn, hsh⟩ := h3 0 v a n f rfl rfl rfl
        rw [List.flatten_cons] at hc
        obtain ⟨c1, c2⟩ := vcells_split hc
        rw [hn] at c1 c2
        cases i with
        | zero =>
          simp only [comp] at h
          split at h
          · simp at h
          · injection h with h; subst h
            refine ⟨v, rfl, ?_⟩
            rcases hsh with ⟨rfl, cs, rfl, rfl⟩ | ⟨rfl, rfl, hna⟩
            · exact osv_mk (.agg cs) c1
            · exact osv_mk (.one v hna) c1
        | succ i =>
          simp only [comp] at h
          obtain ⟨u, hu, ho⟩ := comp_sv (s := s) (i := i) (vs := vs) (fs := fs) (by simpa using h1) (by simpa using h2) (fun j => by
            intro v a n f e1 e2 e3
            exact h3 (j + 1) v a n f (by simpa using e1) (by simpa using e2) (by simpa using e3)) c2 h
          exact ⟨u, by simpa using hu, ho⟩

theorem extract_sv {P : Program} {X : Ctx} {v : Value} {s : List (Bool × Nat)} {l : List CV} {i : Nat} {y : SV} (hx : OSV X v (.c (.tup s) l)) (h : comp i s l = some y) : ∃ v', (Instr.extract v i).run P X.w = .ok v' X.w ∧ OSV X v' y := by
  obtain ⟨ws, hf, hc⟩ := osv_cells hx (fun e => nomatch e)
  cases hf with
  | tup _ vs fs h1 h2 h3 =>
    obtain ⟨v', hv, ho⟩ := comp_sv (vs := vs.toList) h1 (by simpa using h2) (fun j v a n f e1 e2 e3 => h3 j v a n f (by simpa using e1) e2 e3) hc h
    have hv' : vs[i]? = some v' := by simpa using hv
    refine ⟨v', ?_, ho⟩
    simp only [Instr.extract, hv']
    rfl

theorem take_set1 {α : Type} (c : α) : ∀ (l : List α) (k : Nat), k < l.length → (l.set k c).take (k + 1) = l.take k ++ [c]
  | [], k, h => by simp at h
  | x :: l, 0, h => by simp
  | x :: l, k + 1, h => by simp only [List.set_cons_succ, List.take_succ_cons, List.cons_append]; rw [take_set1 c l k (by simpa using h)]
theorem drop_set1 {α : Type} (c : α) : ∀ (l : List α) (k m : Nat), k < m → (l.set k c).drop m = l.drop m
  | [], k, m, h => by simp
  | x :: l, 0, m + 1, h => by simp
  | x :: l, k + 1, m + 1, h => by simp only [List.set_cons_succ, List.drop_succ_cons]; exact drop_set1 c l k m (by omega)

/-- A list with some cells laid over, as the machine lays them. -/
theorem lay_list (off : Nat) : ∀ (cs : List Value) (k : Nat) (z : Array Value), off + k + cs.length ≤ z.size →
    ((cs.zipIdx k).foldl (fun (a : Array Value) (p : Value × Nat) => a.setIfInBounds (off + p.2) p.1) z).toList = z.toList.take (off + k) ++ cs ++ z.toList.drop (off + k + cs.length)
  | [], k, z, h => by simp
  | c :: cs, k, z, h => by
    simp only [List.zipIdx_cons, List.foldl_cons]
    rw [lay_list off cs (k + 1) _ (by simp at h ⊢; omega)]
    simp only [Array.toList_setIfInBounds]
    simp at h
    have hk : off + k < z.toList.length := by simp; omega
    rw [show off + (k + 1) = off + k + 1 from by omega]
    rw [take_set1 _ _ _ hk, drop_set1 _ _ _ _ (by omega)]
    simp only [List.append_assoc, List.singleton_append, List.length_cons, List.cons_append, List.nil_append]
    rw [show off + k + 1 + cs.length = off + k + (cs.length + 1) from by omega]

theorem lay_fold (cs : Array Value) (off : Nat) (z : Array Value) (h : off + cs.size ≤ z.size) :
    (cs.zipIdx.foldl (fun (a : Array Value) (p : Value × Nat) => a.setIfInBounds (off + p.2) p.1) z).toList = z.toList.take off ++ cs.toList ++ z.toList.drop (off + cs.size) := by
  rw [← Array.foldl_toList]
  have := lay_list off cs.toList 0 z (by simpa using h)
  simpa using this

theorem cells_flat {X : Ctx} {v : Value} {x : SV} {cs : List CV} (hx : OSV X v x) (h : cells? x = some cs) : VCells X v.cells.toList cs ∧ ((x = .c .one cs ∧ ∃ c, cs = [c]) ∨ x = .c .agg cs) := by
  unfold cells? at h
  split at h
  · rename_i c
    injection h with h; subst h
    obtain ⟨vs, hf, hc⟩ := osv_cells hx (fun e => nomatch e)
    cases hf with
    | one _ hn =>
      refine ⟨?_, .inl ⟨rfl, c, rfl⟩⟩
      have : v.cells = #[v] := by
        unfold Value.cells
        cases v <;> first | rfl | exact absurd rfl (hn _)
      rw [this]; exact hc
  · rename_i l
    injection h with h; subst h
    obtain ⟨vs, hf, hc⟩ := osv_cells hx (fun e => nomatch e)
    cases hf with
    | agg cs => exact ⟨hc, .inr rfl⟩
  · simp at h

/-- A cell of nobody, as the evaluator has it. -/
theorem zero_cv {X : Ctx} {f : Bool} {p : PV} (h : p.scalar = true ∨ ∃ es, p = .s es []) : ∀ k j, CVRel X k j p.val (p.cv f) := by
  intro k j
  rcases h with h | ⟨es, rfl⟩
  · have : p.cv f = .sh false p := by cases p <;> first | rfl | simp [PV.scalar] at h
    rw [this]; exact .sh false p _ (rd_scalar h)
  · exact .ow0 false es none

theorem zero_cells {X : Ctx} {f : Bool} : ∀ {l : List PV}, (∀ p ∈ l, p.scalar = true ∨ ∃ es, p = .s es []) → VCells X (l.map PV.val) (l.map (PV.cv f))
  | [], _ => .nil
  | p :: l, h => .cons _ _ _ _ (zero_cv (h p (by simp))) (zero_cells fun q hq => h q (by simp [hq]))

theorem run_zero {P : Program} {T : Tys} (hT : TOk P T) {w : World} {t : TypeId} {l : List PV} (h : T.zr t = some l) : ∃ v, (zeroValue t).run P w = .ok v w ∧ v.cells.toList = l.map PV.val ∧ (∀ p ∈ l, p.scalar = true ∨ ∃ es, p = .s es []) := by
  obtain ⟨i, v, hi, hz, hc, hp⟩ := hT.zr t l h
  exact ⟨v, by simp [zeroValue, run_inf hi, hz], hc, hp⟩

theorem lay_vcells {X : Ctx} {vs ws : List Value} {l m : List CV} (h : VCells X vs l) (h' : VCells X ws m) (d : Nat) : VCells X (ws.take d ++ vs ++ ws.drop (d + vs.length)) (lay l d m) := by
  unfold lay
  rw [← h.length]
  exact ((h'.take d).append h).append (h'.drop _)

theorem run_mapM {P : Program} {w : World} {α β : Type} {f : α → Sem β} {g : α → β} : ∀ {l : List α}, (∀ x ∈ l, (f x).run P w = .ok (g x) w) → (l.mapM f).run P w = .ok (l.map g) w
  | [], _ => rfl
  | x :: l, h => by
    simp only [List.mapM_cons, Sem.run_bind, h x (by simp), Result.andThen_ok, run_mapM (l := l) fun y hy => h y (by simp [hy])]
    rfl

theorem run_amapM {P : Program} {w : World} {α β : Type} {f : α → Sem β} {g : α → β} {a : Array α} (h : ∀ x ∈ a, (f x).run P w = .ok (g x) w) : (a.mapM f).run P w = .ok (a.map g) w := by
  rw [Array.mapM_eq_mapM_toList, Sem.run_map, run_mapM (g := g) (fun x hx => h x (by simpa using hx))]
  simp only [Result.andThen_ok]
  congr 1
  apply Array.ext'
  simp

theorem fill_agg {T : Tys} {P : Program} (hT : TOk P T) {X : Ctx} {t : TypeId} {place : Nat → Option (Nat × Nat)} (hp : ∀ i d n, T.fo t i = some d → T.fz t i = some n → place i = some (d, n)) :
    ∀ {ps : List (Nat × SV)} {vs : List (Nat × Value)} {l l' : List CV} {z : Array Value}, ps.map (·.1) = vs.map (·.1) → OSVs X (vs.map (·.2)) (ps.map (·.2)) → VCells X z.toList l → fillSV T t ps l = some l' →
      ∃ z', Instr.fill place z vs = some z' ∧ VCells X z'.toList l'
  | [], vs, l, l', z, h1, h2, hc, h => by
    have : vs = [] := by cases vs with | nil => rfl | cons _ _ => simp at h1
    subst this
    simp only [fillSV] at h; injection h with h; subst h
    exact ⟨z, rfl, hc⟩
  | (i, x) :: ps, vs, l, l', z, h1, h2, hc, h => by
    cases vs with
    | nil => simp at h1
    | cons p vs =>
      obtain ⟨i', v⟩ := p
      simp at h1
      obtain ⟨rfl, h1⟩ := h1
      simp only [List.map_cons] at h2
      cases h2 with
      | cons _ _ _ _ hv ht =>
        simp only [fillSV] at h
        obtain ⟨d, e1, h⟩ := some_bind h
        obtain ⟨cs, e2, h⟩ := some_bind h
        split at h
        · rename_i hle
          obtain ⟨hc1, _⟩ := cells_flat hv e2
          have hlen := hc1.length
          have hsz : v.cells.size = cs.length := by simpa using hlen
          have hz := hc.length
          have hlay := lay_vcells hc1 hc d
          have hf : d + v.cells.size ≤ z.size := by have : z.size = l.length := by simpa using hz
                                                    omega
          have hfold := lay_fold v.cells d z hf
          have hc' : VCells X (v.cells.zipIdx.foldl (fun (a : Array Value) (p : Value × Nat) => a.setIfInBounds (d + p.2) p.1) z).toList (lay cs d l) := by
            rw [hfold]
            simpa using hlay
          obtain ⟨z', r, hz'⟩ := fill_agg hT hp (ps := ps) (vs := vs) h1 ht hc' h
          refine ⟨z', ?_, hz'⟩
          simp only [Instr.fill, hp i d _ e1 hle.2]
          rw [if_neg (by simp [hsz]; rw [← hsz]; omega)]
          exact r
        · simp at h

theorem build_sv {P : Program} {T : Tys} (hT : TOk P T) {X : Ctx} {t : TypeId} {z : List PV} {parts : List (Nat × Value)} {ps : List (Nat × SV)} {l : List CV} (hz : T.zr t = some z) (ha : T.ag t = some true) (h1 : ps.map (·.1) = parts.map (·.1))
    (h2 : OSVs X (parts.map (·.2)) (ps.map (·.2))) (h : fillSV T t ps (z.map (PV.cv false)) = some l) : ∃ v, (Instr.build t parts.toArray).run P X.w = .ok v X.w ∧ OSV X v (.c .agg l) := by
  obtain ⟨fs, hu⟩ := hT.ag1 t ha
  obtain ⟨v0, hr, hc, hp⟩ := run_zero (w := X.w) hT hz
  have hfi := hT.fi t fs ha hu
  let g : Field → Nat × Nat := fun f => (f.offset, ((P.info? f.type).map (·.size)).getD 0)
  have hplaces : ∀ i d n, T.fo t i = some d → T.fz t i = some n → (fs.map g)[i]? = some (d, n) := by
    intro i d n e1 e2
    obtain ⟨fs1, fl1, i1, hu1, hf1, ho1, hi1, _⟩ := hT.fo t i d e1
    obtain ⟨fs2, fl2, i2, hu2, hf2, hi2, hs2⟩ := hT.fz t i n e2
    rw [hu] at hu1 hu2
    injection hu1 with hu1; injection hu1 with hu1; subst hu1
    injection hu2 with hu2; injection hu2 with hu2; subst hu2
    rw [hf1] at hf2; injection hf2 with hf2; subst hf2
    simp [hf1, g, ho1, hi2, hs2]
  obtain ⟨z', hfill, hz'⟩ := fill_agg hT hplaces (z := v0.cells) h1 h2 (by rw [hc]; exact zero_cells hp) h
  refine ⟨.agg z', ?_, osv_mk (.agg z') hz'⟩
  unfold Instr.build
  simp only [Sem.run_bind, hr, Result.andThen_ok, run_und hu]
  rw [run_amapM (g := g) (fun f hf => by
    obtain ⟨i, hi⟩ := hfi f hf
    simp [run_siz hi, g, hi])]
  simp only [Result.andThen_ok, hfill]
  rfl

/-- n zeros side by side, as the machine lays them. -/
def zeroRow (z : Array Value) (m : Nat) : Array Value := (Array.range m).map (z[· % z.size]!)

theorem zeroRow_size (z : Array Value) (m : Nat) : (zeroRow z m).size = m := by simp [zeroRow]

theorem rd_zero {h : Array Obj} {V : Nat → Prop} {p : PV} (hp : p.scalar = true ∨ ∃ es, p = .s es []) : Rd h V p.val p := by
  rcases hp with hp | ⟨es, rfl⟩
  · exact rd_scalar hp
  · exact .s0 none 0 es

theorem zero_rows {h : Array Obj} {V : Nat → Prop} {z : Array Value} {ps : List PV} (hz : z.toList = ps.map PV.val) (hp : ∀ p ∈ ps, p.scalar = true ∨ ∃ es, p = .s es []) (n : Nat) :
    RdRows h V (zeroRow z (n * ps.length)) 0 ps.length (List.replicate n ps) := by
  have hsz : z.size = ps.length := by have := congrArg List.length hz; simpa using this
  refine RdRows.mk fun i row hi => ?_
  have hin : i < n := by have := (List.getElem?_eq_some_iff.1 hi).1; simpa using this
  have : row = ps := by
    have := (List.getElem?_eq_some_iff.1 hi).2
    simpa using this.symm
  subst this
  refine ⟨rfl, RdRow.mk fun j p hj => ?_⟩
  have hjl := (List.getElem?_eq_some_iff.1 hj).1
  have hlt : i * row.length + j < n * row.length := by
    have : (i + 1) * row.length ≤ n * row.length := Nat.mul_le_mul_right _ hin
    rw [Nat.add_mul] at this; omega
  have hmod : (i * row.length + j) % z.size = j := by
    rw [hsz, Nat.add_comm, Nat.add_mul_mod_self_right, Nat.mod_eq_of_lt hjl]
  refine ⟨p.val, ?_, rd_zero (hp p (List.mem_of_getElem? hj))⟩
  have hzj : z[j]? = some p.val := by
    have h2 : z.toList[j]? = some p.val := by rw [hz, List.getElem?_map, hj]; rfl
    simpa using h2
  have hjz := (Array.getElem?_eq_some_iff.1 hzj).1
  simp only [zeroRow, Array.getElem?_map, Nat.zero_add]
  rw [Array.getElem?_range, if_pos hlt]
  simp only [Option.map_some, hmod]
  rw [getElem!_pos z j hjz]
  rw [← (Array.getElem?_eq_some_iff.1 hzj).2]

theorem zeroRow_alt {z : Array Value} {n m : Nat} (h : m = 0 → n = 0) : (Array.range n).map ((if m = 0 then #[] else z)[· % (if m = 0 then (#[] : Array Value) else z).size]!) = zeroRow z n := by
  by_cases hm : m = 0
  · have := h hm; subst this; simp [zeroRow]
  · simp [hm, zeroRow]

theorem free0 (n : Nat) : free (0, 0) n := fun o _ h => by omega

theorem make_sv {P : Program} {T : Tys} (hT : TOk P T) {X : Ctx} (hi : Inv X) {d : Nat} (hf : Free X d 0) {t e : TypeId} {es bs : Nat} {z : List PV} {n : Int} (h1 : T.sl t = some e) (h2 : T.sz e = some es) (h3 : T.byt e = some bs) (h4 : T.zr e = some z)
    (hn0 : 0 ≤ n) (hn1 : n ≤ LIM) (hn2 : n * bs ≤ LIM) (hz : z.length = es) :
    ∃ v X', (Instr.makeSlice t (.int .i64 n) (.int .i64 n)).run P X.w = .ok v X'.w ∧ PureRes X X' d v (.c .one [.ow false es (List.replicate n.toNat z)]) := by
  have hu := hT.sl t e h1
  obtain ⟨i, hi1, hi2⟩ := hT.sz e es h2
  obtain ⟨i', hi1', hi3⟩ := hT.byt e bs h3
  rw [hi1] at hi1'; injection hi1' with hi1'; subst hi1'
  obtain ⟨v0, hr, hc, hp⟩ := run_zero (w := X.w) hT h4
  have hwrap : IntKind.i64.wrap n = n := IntWalk.i64_in n (by unfold LIM at hn1; omega)
  have hbig : ¬((n < 0 || decide ((bs : Int) * n > 2 ^ 48)) || decide (n < 0) || decide (n > n)) = true := by
    unfold LIM at hn2
    rw [Int.mul_comm] at hn2
    simp
    omega
  have hlen : (List.replicate n.toNat z).length = n.toNat := by simp
  have hcells : (Array.range (n.toNat * es)).map ((if n.toNat * es = 0 then (#[] : Array Value) else v0.cells)[· % (if n.toNat * es = 0 then (#[] : Array Value) else v0.cells).size]!) = zeroRow v0.cells (n.toNat * es) := zeroRow_alt id
  have hpush : Pushes X.w (X.w.alloc (.cells (zeroRow v0.cells (n.toNat * es)) e)) (.cells (zeroRow v0.cells (n.toNat * es)) e (0, 0)) := ⟨rfl, rfl, rfl, rfl⟩
  refine ⟨.slice (some ⟨X.w.heap.size, 0, none⟩) (List.replicate n.toNat z).length n.toNat, X.made (X.w.alloc (.cells (zeroRow v0.cells (n.toNat * es)) e)) (d, 1, 0, (List.replicate n.toNat z).length), ?_, ?_⟩
  · unfold Instr.makeSlice
    simp only [Sem.run_bind, run_und hu, Result.andThen_ok, asInt, asIntOf, Sem.run_pure, run_inf hi1, hi3, hwrap]
    rw [if_neg hbig]
    simp only [Sem.run_bind, run_askRoom, Result.andThen_ok, run_siz hi1, hi2]
    by_cases h0 : n.toNat * es = 0
    · simp only [if_pos h0] at hcells
      rw [if_pos h0]
      simp only [Sem.run_bind, Sem.run_pure, Result.andThen_ok, hcells, newRow, run_newObj, hlen]
      rfl
    · simp only [if_neg h0] at hcells
      rw [if_neg h0]
      simp only [Sem.run_bind, Sem.run_pure, Result.andThen_ok, hr, hcells, newRow, run_newObj, hlen]
      rfl
  · refine pure_made (f := false) (es := es) (cap := n.toNat) (rows := List.replicate n.toNat z) hi hf hpush (free0 _) (by rw [hlen]; exact Nat.le_refl _) (by rw [zeroRow_size]; exact Nat.le_refl _) fun X' _ _ => ?_
    rw [← hz]
    exact zero_rows hc hp n.toNat

/-- A row of elements in an array of its own. -/
theorem rows_set {h : Array Obj} {V : Nat → Prop} {c c' : Array Value} {es : Nat} {rows : List (List PV)} {i : Nat} {ps : List PV} (hr : RdRows h V c 0 es rows) (hi : i < rows.length) (hl : ps.length = es)
    (h1 : ∀ (j : Nat) (p : PV), ps[j]? = some p → ∃ x, c'[i * es + j]? = some x ∧ Rd h V x p) (h2 : ∀ k, (k < i * es ∨ i * es + es ≤ k) → c'[k]? = c[k]?) : RdRows h V c' 0 es (rows.set i ps) := by
  refine RdRows.mk fun k row hk => ?_
  by_cases hki : k = i
  · subst hki
    rw [List.getElem?_set_self hi] at hk
    injection hk with hk; subst hk
    exact ⟨hl, RdRow.mk fun j p hj => by simpa using h1 j p hj⟩
  · rw [List.getElem?_set_ne (Ne.symm hki)] at hk
    obtain ⟨g1, g2⟩ := hr.get k row hk
    refine ⟨g1, RdRow.mk fun j p hj => ?_⟩
    obtain ⟨x, hx, hrd⟩ := g2.get j p hj
    refine ⟨x, ?_, hrd⟩
    rw [← hx]
    have hjl := (List.getElem?_eq_some_iff.1 hj).1
    rw [g1] at hjl
    simp only [Nat.zero_add]
    refine h2 _ ?_
    rcases Nat.lt_or_gt_of_ne hki with h | h
    · left
      have : (k + 1) * es ≤ i * es := Nat.mul_le_mul_right _ h
      rw [Nat.add_mul] at this; omega
    · right
      have : (i + 1) * es ≤ k * es := Nat.mul_le_mul_right _ h
      rw [Nat.add_mul] at this; omega

/-- The values and their parts of a row literal. -/
theorem nest_pure {X : Ctx} {σ : St} {v : Value} {c : CV} {f : Bool} {p : PV} (hv : ∀ k j, CVRel X k j v c) (he : nest c [] = some (σ, f, p)) : σ = [] ∧ Rd X.w.heap (X.V f) v p := by
  unfold nest at he
  split at he
  · rename_i f0 p0
    injection he with he; injection he with e1 he; injection he with e2 e3; subst e1; subst e2; subst e3
    refine ⟨rfl, ?_⟩
    have := hv 0 0
    cases this with
    | sh _ _ _ hv =>
      cases hs : p0.scalar with
      | true => exact hv.scalar hs
      | false => simpa [hs] using hv
  · rename_i f0 es
    injection he with he; injection he with e1 he; injection he with e2 e3; subst e1; subst e2; subst e3
    obtain ⟨_, a, rfl⟩ := no_ow fun k => hv k 0
    exact ⟨rfl, .s0 a 0 es⟩
  · simp [cellAt, CV.isOw] at he
  · simp at he

theorem nestAll_pure {X : Ctx} : ∀ {l : List CV} {vals : List Value} {σ : St} {f : Bool} {ps : List PV}, VCells X vals l → nestAll l [] = some (σ, f, ps) → σ = [] ∧ RdL X f vals ps
  | [], vals, σ, f, ps, hv, he => by
    simp only [nestAll] at he
    injection he with he; injection he with e1 he; injection he with e2 e3; subst e1; subst e2; subst e3
    cases hv
    exact ⟨rfl, .nil⟩
  | c :: l, vals, σ, f, ps, hv, he => by
    cases hv with
    | cons v _ vals _ hc ht =>
    simp only [nestAll] at he
    obtain ⟨⟨σ1, f1, p1⟩, e1, he⟩ := some_bind he
    obtain ⟨rfl, r1⟩ := nest_pure hc e1
    cases e2 : nestAll l [] with
    | none => simp [e2] at he
    | some q =>
      obtain ⟨σ2, f2, ps2⟩ := q
      simp [e2] at he
      obtain ⟨rfl, rfl, rfl⟩ := he
      obtain ⟨rfl, r2⟩ := nestAll_pure ht e2
      exact ⟨rfl, .cons v p1 vals ps2 (r1.mono fun b hb => ⟨V_or f2 hb, rfl⟩) (r2.mono fun b hb => ⟨V_or' f1 hb, rfl⟩)⟩

theorem RdL.get {X : Ctx} {f : Bool} : ∀ {vs : List Value} {ps : List PV}, RdL X f vs ps → ∀ (j : Nat) (p : PV), ps[j]? = some p → ∃ v, vs[j]? = some v ∧ Rd X.w.heap (X.V f) v p
  | _, _, .nil, j, p, h => by simp at h
  | _, _, .cons v q vs ps h t, 0, p, e => by simp at e; subst e; exact ⟨v, rfl, h⟩
  | _, _, .cons v q vs ps h t, j + 1, p, e => by
    obtain ⟨u, h1, h2⟩ := RdL.get t j p (by simpa using e)
    exact ⟨u, by simpa using h1, h2⟩

/-- One part laid into a row of elements. -/
theorem rows_lay {X : Ctx} {f g : Bool} {es i : Nat} {z : Array Value} {v : Value} {ps : List PV} {rows : List (List PV)} (hr : RdRows X.w.heap (X.V g) z 0 es rows) (hz : z.size = rows.length * es) (hi : i < rows.length) (hl : ps.length = es)
    (hp : RdL X f v.cells.toList ps) : RdRows X.w.heap (X.V (g || f)) (v.cells.zipIdx.foldl (fun (a : Array Value) (p : Value × Nat) => a.setIfInBounds (i * es + p.2) p.1) z) 0 es (rows.set i ps) ∧
      (v.cells.zipIdx.foldl (fun (a : Array Value) (p : Value × Nat) => a.setIfInBounds (i * es + p.2) p.1) z).size = z.size ∧ v.cells.size = es ∧ i * es + v.cells.size ≤ z.size := by
  have hsz : v.cells.size = es := by have := hp.length; simpa [hl] using this
  have hfit : i * es + v.cells.size ≤ z.size := by
    rw [hsz, hz]
    have : (i + 1) * es ≤ rows.length * es := Nat.mul_le_mul_right _ hi
    rw [Nat.add_mul] at this; omega
  have hfold := lay_fold v.cells (i * es) z hfit
  revert hfold
  generalize v.cells.zipIdx.foldl (fun (a : Array Value) (p : Value × Nat) => a.setIfInBounds (i * es + p.2) p.1) z = y
  intro hfold
  have hget : ∀ k : Nat, y[k]? = (z.toList.take (i * es) ++ v.cells.toList ++ z.toList.drop (i * es + v.cells.size))[k]? := fun k => by
    rw [← hfold]; simp
  refine ⟨?_, ?_, hsz, hfit⟩
  · refine rows_set (hr.mono fun b hb => ⟨V_or f hb, rfl⟩) hi hl (fun j p hj => ?_) fun k hk => ?_
    · obtain ⟨u, h1, h2⟩ := hp.get j p hj
      refine ⟨u, ?_, h2.mono fun b hb => ⟨V_or' g hb, rfl⟩⟩
      rw [hget, List.append_assoc, List.getElem?_append_right (by simp; omega)]
      have : i * es + j - (z.toList.take (i * es)).length = j := by simp; omega
      rw [this, List.getElem?_append_left (by have := (List.getElem?_eq_some_iff.1 h1).1; exact this)]
      exact h1
    · rw [hget]
      rcases hk with hk | hk
      · rw [List.append_assoc, List.getElem?_append_left (by simp; omega), List.getElem?_take, if_pos hk]
        simp
      · rw [List.getElem?_append_right (by simp; omega)]
        have : k - (z.toList.take (i * es) ++ v.cells.toList).length = k - (i * es + es) := by simp; omega
        rw [this, List.getElem?_drop, hsz, show i * es + es + (k - (i * es + es)) = k from by omega]
        simp
  · have := congrArg List.length hfold
    simp at this
    omega

theorem fill_rows {X : Ctx} {es : Nat} : ∀ {ps : List (Nat × SV)} {vs : List (Nat × Value)} {g f' : Bool} {rows rows' : List (List PV)} {σ : St} {z : Array Value}, ps.map (·.1) = vs.map (·.1) → OSVs X (vs.map (·.2)) (ps.map (·.2)) →
    RdRows X.w.heap (X.V g) z 0 es rows → z.size = rows.length * es → fillRows es ps g rows [] = some (σ, f', rows') →
      ∃ z', Instr.fill (fun i => some (i * es, es)) z vs = some z' ∧ RdRows X.w.heap (X.V f') z' 0 es rows' ∧ z'.size = rows'.length * es ∧ rows'.length = rows.length
  | [], vs, g, f', rows, rows', σ, z, h1, h2, hr, hz, h => by
    have : vs = [] := by cases vs with | nil => rfl | cons _ _ => simp at h1
    subst this
    simp only [fillRows] at h; injection h with h; injection h with _ h; injection h with h3 h4; subst h3; subst h4
    exact ⟨z, rfl, hr, hz, rfl⟩
  | (i, x) :: ps, vs, g, f', rows, rows', σ, z, h1, h2, hr, hz, h => by
    cases vs with
    | nil => simp at h1
    | cons p vs =>
      obtain ⟨i', v⟩ := p
      simp at h1
      obtain ⟨rfl, h1⟩ := h1
      simp only [List.map_cons] at h2
      cases h2 with
      | cons _ _ _ _ hv ht =>
        simp only [fillRows] at h
        obtain ⟨cs, e2, h⟩ := some_bind h
        obtain ⟨⟨σ1, f1, p1⟩, e3, h⟩ := some_bind h
        obtain ⟨hc1, _⟩ := cells_flat hv e2
        obtain ⟨rfl, hp⟩ := nestAll_pure hc1 e3
        simp only at h
        split at h
        · rename_i hle
          obtain ⟨l1, l2, l3, l4⟩ := rows_lay hr hz hle.1 hle.2 hp
          obtain ⟨z', r, q1, q2, q3⟩ := fill_rows (ps := ps) (vs := vs) h1 ht l1 (by rw [l2, hz]; simp) h
          refine ⟨z', ?_, q1, q2, by simpa using q3⟩
          simp only [Instr.fill]
          have l5 : ¬(v.cells.size ≠ es ∨ i * es + v.cells.size > z.size) := fun hh => hh.elim (fun h => h l3) fun h => by omega
          rw [if_neg (by simpa using l5)]
          exact r
        · simp at h

theorem rowlit_sv {P : Program} {T : Tys} (hT : TOk P T) {X : Ctx} (hi : Inv X) {d : Nat} (hf : Free X d 0) {t e : TypeId} {es n : Nat} {z : List PV} {parts : List (Nat × Value)} {ps : List (Nat × SV)} {σ : St} {f : Bool} {rows : List (List PV)}
    (h1 : T.sl t = some e) (h2 : T.sz e = some es) (h4 : T.zr e = some z) (hn : n * es ≤ 16777216) (hz : z.length = es) (hp1 : ps.map (·.1) = parts.map (·.1)) (hp2 : OSVs X (parts.map (·.2)) (ps.map (·.2)))
    (h : fillRows es ps false (List.replicate n z) [] = some (σ, f, rows)) :
    ∃ v X', (Instr.buildSlice t n parts.toArray).run P X.w = .ok v X'.w ∧ PureRes X X' d v (.c .one [.ow f es rows]) := by
  have hu := hT.sl t e h1
  obtain ⟨i, hi1, hi2⟩ := hT.sz e es h2
  obtain ⟨v0, hr, hc, hp⟩ := run_zero (w := X.w) hT h4
  have h0 : RdRows X.w.heap (X.V false) (zeroRow v0.cells (n * es)) 0 es (List.replicate n z) := by rw [← hz]; exact zero_rows hc hp n
  obtain ⟨z', hfill, q1, q2, q3⟩ := fill_rows hp1 hp2 h0 (by rw [zeroRow_size]; simp) h
  have hlen : rows.length = n := by rw [q3]; simp
  have hpush : Pushes X.w (X.w.alloc (.cells z' e)) (.cells z' e (0, 0)) := ⟨rfl, rfl, rfl, rfl⟩
  have hcells : (Array.range (n * es)).map ((if n * es = 0 then (#[] : Array Value) else v0.cells)[· % (if n * es = 0 then (#[] : Array Value) else v0.cells).size]!) = zeroRow v0.cells (n * es) := zeroRow_alt id
  refine ⟨.slice (some ⟨X.w.heap.size, 0, none⟩) rows.length rows.length, X.made (X.w.alloc (.cells z' e)) (d, 1, 0, rows.length), ?_, pure_made hi hf hpush (free0 _) (Nat.le_refl _) (by rw [q2]; exact Nat.le_refl _) fun X' hm hw => ?_⟩
  · unfold Instr.buildSlice
    simp only [Sem.run_bind, run_und hu, Result.andThen_ok, run_siz hi1, hi2]
    rw [if_neg (by omega)]
    by_cases h0 : n * es = 0
    · simp only [if_pos h0] at hcells
      rw [if_pos h0]
      simp only [Sem.run_bind, Sem.run_pure, Result.andThen_ok, hcells, hfill, newRow, run_newObj, hlen]
      rfl
    · simp only [if_neg h0] at hcells
      rw [if_neg h0]
      simp only [Sem.run_bind, Sem.run_pure, Result.andThen_ok, hr, hcells, hfill, newRow, run_newObj, hlen]
      rfl
  · have := q1.mono (V' := X'.V f) (h' := X'.w.heap) fun b hb => hm.V f b hb
    rw [hw] at this
    exact this

end Go.Proofs.Ytlbigobmhglppaa.R
