/- A slice literal whose parts give their slices away. -/
import Derived.Test.YtlbigobmhglppaaR24
set_option linter.unusedVariables false
set_option linter.unusedSimpArgs false
namespace Go.Proofs.Ytlbigobmhglppaa.R
open Go

inductive OParts (X : Ctx) (σ : St) : List (Nat × Value) → List (Nat × SV) → Prop
  | nil : OParts X σ [] []
  | cons (i : Nat) (v : Value) (x : SV) (vs : List (Nat × Value)) (ps : List (Nat × SV)) : (∀ cs, cells? x = some cs → OCells X σ v.cells.toList cs) → OParts X σ vs ps → OParts X σ ((i, v) :: vs) ((i, x) :: ps)

theorem OParts.map {X X' : Ctx} {σ σ' : St} (H : ∀ v c, OV X σ v c → OV X' σ' v c) : ∀ {vs : List (Nat × Value)} {ps : List (Nat × SV)}, OParts X σ vs ps → OParts X' σ' vs ps
  | _, _, .nil => .nil
  | _, _, .cons i v x vs ps h t => .cons i v x vs ps (fun cs e => (h cs e).map H) (OParts.map H t)

theorem fill_rows_eff (gv : List Value) {es : Nat} : ∀ {ps : List (Nat × SV)} {vs : List (Nat × Value)} {X : Ctx} {E : Nat → Nat → Prop} {g f' : Bool} {rows rows' : List (List PV)} {σ σ' : St} {z : Array Value}, Good X gv σ E → OParts X σ vs ps →
    RdRows X.w.heap (X.V g) z 0 es rows → z.size = rows.length * es → fillRows es ps g rows σ = some (σ', f', rows') →
      ∃ X' z', Kept X X' gv σ σ' E ∧ Instr.fill (fun i => some (i * es, es)) z vs = some z' ∧ RdRows X'.w.heap (X'.V f') z' 0 es rows' ∧ z'.size = rows'.length * es ∧ rows'.length = rows.length
  | [], vs, X, E, g, f', rows, rows', σ, σ', z, hg, hp, hr, hz, h => by
    cases hp
    simp only [fillRows] at h; injection h with h; injection h with h0 h; injection h with h3 h4; subst h0; subst h3; subst h4
    exact ⟨X, z, .refl hg, rfl, hr, hz, rfl⟩
  | (i, x) :: ps, _, X, E, g, f', rows, rows', σ, σ', z, hg, .cons _ v _ vs _ hv ht, hr, hz, h => by
    simp only [fillRows] at h
    obtain ⟨cs, e2, h⟩ := some_bind h
    obtain ⟨⟨σ1, f1, p1⟩, e3, h⟩ := some_bind h
    obtain ⟨X1, k1, hp⟩ := nestAll_good gv hg (hv cs e2) e3
    simp only at h
    split at h
    · rename_i hle
      have hr1 : RdRows X1.w.heap (X1.V g) z 0 es rows := hr.mono fun b hb => ⟨k1.V g b hb, by rw [k1.w]⟩
      obtain ⟨l1, l2, l3, l4⟩ := rows_lay hr1 hz hle.1 hle.2 hp
      obtain ⟨X2, z', k2, r, q1, q2, q3⟩ := fill_rows_eff gv (ps := ps) (vs := vs) k1.good (ht.map k1.ov) l1 (by rw [l2, hz]; simp) h
      refine ⟨X2, z', k1.trans k2, ?_, q1, q2, by simpa using q3⟩
      simp only [Instr.fill]
      have l5 : ¬(v.cells.size ≠ es ∨ i * es + v.cells.size > z.size) := fun hh => hh.elim (fun h => h l3) fun h => by omega
      rw [if_neg (by simpa using l5)]
      exact r
    · simp at h

theorem nest_shape {c : CV} {σ σ' : St} {f : Bool} {p : PV} (h : nest c σ = some (σ', f, p)) (d : Nat) (sh : Shape) : (∃ m, σ'[d]? = some (.c sh m)) ↔ ∃ m, σ[d]? = some (.c sh m) := by
  unfold nest at h
  split at h
  · injection h with h; injection h with h; subst h; exact Iff.rfl
  · injection h with h; injection h with h; subst h; exact Iff.rfl
  · split at h
    · injection h with h; injection h with h; subst h; exact mapSt_shape _ _ _ _ _
    · simp at h
  · simp at h
theorem nestAll_shape : ∀ {l : List CV} {σ σ' : St} {f : Bool} {ps : List PV}, nestAll l σ = some (σ', f, ps) → ∀ (d : Nat) (sh : Shape), (∃ m, σ'[d]? = some (.c sh m)) ↔ ∃ m, σ[d]? = some (.c sh m)
  | [], σ, σ', f, ps, h, d, sh => by simp only [nestAll] at h; injection h with h; injection h with h; subst h; exact Iff.rfl
  | c :: l, σ, σ', f, ps, h, d, sh => by
    simp only [nestAll] at h
    obtain ⟨⟨σ1, f1, p1⟩, h1, h⟩ := some_bind h
    obtain ⟨⟨σ2, f2, p2⟩, h2, h⟩ := some_map h
    injection h with h _; subst h
    exact (nestAll_shape h2 d sh).trans (nest_shape h1 d sh)
theorem fillRows_shape {es : Nat} : ∀ {ps : List (Nat × SV)} {g f' : Bool} {rows rows' : List (List PV)} {σ σ' : St}, fillRows es ps g rows σ = some (σ', f', rows') → ∀ (d : Nat) (sh : Shape), (∃ m, σ'[d]? = some (.c sh m)) ↔ ∃ m, σ[d]? = some (.c sh m)
  | [], g, f', rows, rows', σ, σ', h, d, sh => by simp only [fillRows] at h; injection h with h; injection h with h; subst h; exact Iff.rfl
  | (i, x) :: ps, g, f', rows, rows', σ, σ', h, d, sh => by
    simp only [fillRows] at h
    obtain ⟨cs, e2, h⟩ := some_bind h
    obtain ⟨⟨σ1, f1, p1⟩, e3, h⟩ := some_bind h
    simp only at h
    split at h
    · exact (fillRows_shape h d sh).trans (nestAll_shape e3 d sh)
    · simp at h

theorem kept_bare {X X' : Ctx} {vs : List Value} {σ σ' : St} {d : Nat} (hb : Bare X σ d) (k : Kept X X' vs σ σ' NoE) (hs : ∀ (sh : Shape), (∃ m, σ'[d]? = some (.c sh m)) ↔ ∃ m, σ[d]? = some (.c sh m)) : Bare X' σ' d := by
  have hbx : ∀ l, σ'[d]? ≠ some (.c .box l) := fun l e => by
    obtain ⟨m, hm⟩ := (hs .box).1 ⟨l, e⟩
    exact hb.2.2.2 m hm
  refine ⟨fun p => k.free d p (hb.1 p), fun b base tip e => ?_, fun p => k.noOw d p (hb.2.2.1 p), hbx⟩
  obtain ⟨l, hl⟩ := k.good.tags.box _ _ _ _ e
  exact hbx l hl

theorem rowlit_eff {P : Program} {T : Tys} (hT : TOk P T) {X : Ctx} {vs : List Value} {σ σ' : St} {d : Nat} (hg : Good X vs σ NoE) (hb : Bare X σ d) (hd : d < σ.length) {t e : TypeId} {es n : Nat} {z : List PV} {parts : List (Nat × Value)} {ps : List (Nat × SV)} {f : Bool} {rows : List (List PV)}
    (h1 : T.sl t = some e) (h2 : T.sz e = some es) (h4 : T.zr e = some z) (hn : n * es ≤ 16777216) (hz : z.length = es) (hp : OParts X σ parts ps)
    (h : fillRows es ps false (List.replicate n z) σ = some (σ', f, rows)) :
    ∃ v X', (Instr.buildSlice t n parts.toArray).run P X.w = .ok v X'.w ∧ Eff X X' vs σ' d v (.c .one [.ow f es rows]) := by
  have hu := hT.sl t e h1
  obtain ⟨i, hi1, hi2⟩ := hT.sz e es h2
  obtain ⟨v0, hr, hc, hpz⟩ := run_zero (w := X.w) hT h4
  have h0 : RdRows X.w.heap (X.V false) (zeroRow v0.cells (n * es)) 0 es (List.replicate n z) := by rw [← hz]; exact zero_rows hc hpz n
  obtain ⟨X1, z', k1, hfill, q1, q2, q3⟩ := fill_rows_eff vs hg hp h0 (by rw [zeroRow_size]; simp) h
  have hlen : rows.length = n := by rw [q3]; simp
  have hpush : Pushes X1.w (X.w.alloc (.cells z' e)) (.cells z' e (0, 0)) := ⟨by rw [k1.w]; rfl, by rw [k1.w]; rfl, by rw [k1.w]; rfl, by rw [k1.w]; rfl⟩
  have hcells : (Array.range (n * es)).map ((if n * es = 0 then (#[] : Array Value) else v0.cells)[· % (if n * es = 0 then (#[] : Array Value) else v0.cells).size]!) = zeroRow v0.cells (n * es) := zeroRow_alt id
  have hE := eff_pure k1.good (kept_bare hb k1 (fillRows_shape h d)) (by rw [k1.size]; exact hd) (pure_made (f := f) (es := es) (rows := rows) (cap := rows.length) k1.good.inv ((kept_bare hb k1 (fillRows_shape h d)).1 0) hpush (free0 _) (Nat.le_refl _) (by rw [q2]; exact Nat.le_refl _) fun X' hm hw => by
    have := q1.mono (V' := X'.V f) (h' := X'.w.heap) fun b hb => hm.V f b hb
    rw [hw] at this
    exact this)
  refine ⟨_, _, ?_, k1.goes.trans hE.goes, hE.good⟩
  unfold Instr.buildSlice
  simp only [Sem.run_bind, run_und hu, Result.andThen_ok, run_siz hi1, hi2]
  rw [if_neg (by omega)]
  by_cases h0 : n * es = 0
  · simp only [if_pos h0] at hcells
    rw [if_pos h0]
    simp only [Sem.run_bind, Sem.run_pure, Result.andThen_ok, hcells, hfill, newRow, run_newObj, hlen, k1.w]
    rfl
  · simp only [if_neg h0] at hcells
    rw [if_neg h0]
    simp only [Sem.run_bind, Sem.run_pure, Result.andThen_ok, hr, hcells, hfill, newRow, run_newObj, hlen, k1.w]
    rfl

end Go.Proofs.Ytlbigobmhglppaa.R
