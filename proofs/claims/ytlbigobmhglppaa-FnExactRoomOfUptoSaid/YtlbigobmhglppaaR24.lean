/- append. -/
import Derived.Test.YtlbigobmhglppaaR23
set_option linter.unusedVariables false
set_option linter.unusedSimpArgs false
namespace Go.Proofs.Ytlbigobmhglppaa.R
open Go

theorem maps_moved (X : Ctx) (s o d es : Nat) : Maps X (X.retag s o (fun _ _ => none) True) (mvC s o d 0 (some es)) (epTo s o d 0 (some es)) :=
  near_retag.maps (fun k j c h1 h2 => mvC_else h1 h2) (fun _ _ h => epTo_else h)
    (fun v f es1 rows h => by
      simp only [mvC, and_self, if_true]
      split
      · exact .brv d 0 0 f es1 rows v (Rd_of_ow trivial h)
      · exact .dead v)
    (fun k j v kd lo f es1 rows h => by
      simp only [mvC, and_self, if_true]
      split
      · exact .brv d 0 lo f es1 rows v (Rd_of_br trivial h)
      · exact .dead v)
    (fun k v kd fl es i f row h s' o' e1 => by simp [epTo] at e1)

/-- The old array is nobody's own any more. -/
theorem left_good {X : Ctx} {vs : List Value} {σ : St} (hg : Good X vs σ NoE) (s o d kd es : Nat) : Good (X.retag s o (fun _ _ => none) True) vs (if kd = 0 then move s o d 0 (some es) σ else off s o σ) NoE := by
  have hinv : Inv (X.retag s o (fun _ _ => none) True) := hg.inv.retag (fun _ _ _ => rfl) (fun _ _ _ _ _ _ h => by simp at h)
  split
  · exact ⟨hinv, hg.frame.map (maps_moved X s o d es), tags_retag_none hg.tags (mvC_dead s o d 0 (some es)) (fun k j c hc hn => mvC_ow hc hn)⟩
  · exact ⟨hinv, hg.frame.map (maps_off X s o _ True), tags_retag_none hg.tags (offC_dead s o) (fun k j c hc hn => offC_ow hc hn)⟩

theorem left_bare {X : Ctx} {σ : St} {d : Nat} (hb : Bare X σ d) (s o kd es : Nat) {T : Nat → Nat → Option Own} (hT : ∀ base tip, T base tip = none) (Q : Prop) : Bare (X.retag s o T Q) (if kd = 0 then move s o d 0 (some es) σ else off s o σ) d := by
  refine ⟨fun p => (hb.1 p).retag fun _ _ _ ht => by simp [hT] at ht, fun b base tip h => ?_, fun p => ?_, fun l h => ?_⟩
  · rcases retag_own_cases h with ⟨h2, _⟩ | ⟨base', tip', _, h3⟩
    · exact hb.2.1 _ _ _ h2
    · simp [hT] at h3
  · split
    · exact isOw_map _ _ σ d p (mvC_dead s o d 0 (some es) d p) (mvC_no s o d 0 (some es) d p) (hb.2.2.1 p)
    · exact isOw_map _ _ σ d p (offC_dead s o d p) (offC_no s o d p) (hb.2.2.1 p)
  · split at h
    · obtain ⟨m, hm⟩ := (mapSt_shape _ _ _ _ _).1 ⟨l, h⟩
      exact hb.2.2.2 m hm
    · obtain ⟨m, hm⟩ := (mapSt_shape _ _ _ _ _).1 ⟨l, h⟩
      exact hb.2.2.2 m hm

theorem left_size (σ : St) (s o d kd es : Nat) : (if kd = 0 then move s o d 0 (some es) σ else off s o σ).length = σ.length := by
  split <;> exact mapSt_length _ _ _ _

/-- A grown array. -/
theorem grown_eff {X1 : Ctx} {w' : World} {vs : List Value} {σ : St} {d : Nat} (hg : Good X1 vs σ NoE) (hb : Bare X1 σ d) (hd : d < σ.length) {c : Array Value} {elem : TypeId} {news : List Value} {f : Bool} {es cap : Nat} {rows : List (List PV)} (hn : RdN X1.w.heap (X1.V f) news es rows)
    (hp : Pushes X1.w w' (.cells c elem (0, 0))) (hc : ∀ (j : Nat) (u : Value), news[j]? = some u → c[j]? = some u) (hcap : rows.length ≤ cap) (hfit : cap * es ≤ c.size) :
    Eff X1 (X1.made w' (d, 1, 0, rows.length)) vs σ d (.slice (some ⟨X1.w.heap.size, 0, none⟩) rows.length cap) (.c .one [.ow f es rows]) :=
  eff_pure hg hb hd (pure_made hg.inv (hb.1 0) hp (free0 _) hcap hfit fun X' hm hw => by
    refine RdN.rows (hn.mono fun b hb => ?_) fun j u h => by rw [Nat.zero_add]; exact hc j u h
    have h1 := hm.V f b hb
    rw [← hw]
    exact h1)

theorem zeroCells_size (z : Array Value) (n : Nat) : (Builtin.zeroCells z n).size = n * z.size := by simp [Builtin.zeroCells]

theorem append_grow {P : Program} {T : Tys} (hT : TOk P T) {X : Ctx} {X1 : Ctx} (hw : X1.w = X.w) {vs : List Value} {σ : St} {d : Nat} (hg : Good X1 vs σ NoE) (hb : Bare X1 σ d) (hd : d < σ.length) {t u ty e : TypeId} {es bs : Nat} {z : List PV}
    (h1 : T.sl t = some e) (h2 : T.sz e = some es) (h3 : T.byt e = some bs) (h4 : T.zr e = some z) (hz : z.length = es) {base : Option Addr} {sCap : Nat} {f : Bool} {rows ys : List (List PV)} {olds news : List Value} {yv : Value} {i : TypeInfo} (hi : P.info? e = some i) (hsz : i.size = es) (hsrc : Src P i.size u yv ys.length news X.w)
    (hold : (Builtin.firstCells i.size rows.length (.slice base rows.length sCap)).run P X.w.drew = .ok olds.toArray X.w.drew) (ho : RdN X1.w.heap (X1.V f) olds es rows) (hn : RdN X1.w.heap (X1.V f) news es ys) (hgr : sCap < rows.length + ys.length) (hlim : (rows.length + ys.length) * bs ≤ LIM) (hb0 : ys.length + rows.length ≤ 4611686018427387904) :
    ∃ v X', (Builtin.append_ #[t, u] ty #[.slice base rows.length sCap, yv]).run P X.w = .ok v X'.w ∧ Eff X1 X' vs σ d v (.c .one [.ow f es (rows ++ ys)]) := by
  obtain ⟨i2, hi2, hby⟩ := hT.byt e bs h3
  obtain ⟨i3, zv, hi3, hz1, hz2, _⟩ := hT.zr e z h4
  rw [hi] at hi2 hi3
  injection hi2 with hi2; injection hi3 with hi3
  subst hi2; subst hi3
  have hrun := run_append_grow_src (P := P) X.w t u ty e i zv (hT.sl t e h1) hi hz1 base rows.length sCap olds hold yv ys.length news hsrc hgr (by omega) (by
    refine growslice_fits hgr ?_
    rw [hby]
    exact Nat.le_trans hlim (by decide))
  have hge := grownCap_ge X.w (rows.length + ys.length) sCap e
  have hzs : zv.cells.size = es := by
    have := congrArg List.length hz2
    simp [hz] at this
    exact this
  have hp : Pushes X1.w (X.w.drew.alloc (.cells ((olds ++ news).toArray ++ Builtin.zeroCells zv.cells (grownCap X.w (rows.length + ys.length) sCap e - (rows.length + ys.length))) e)) (.cells ((olds ++ news).toArray ++ Builtin.zeroCells zv.cells (grownCap X.w (rows.length + ys.length) sCap e - (rows.length + ys.length))) e (0, 0)) :=
    ⟨by rw [hw]; rfl, by rw [hw]; rfl, by rw [hw]; rfl, by rw [hw]; rfl⟩
  have he := grown_eff (f := f) (es := es) (rows := rows ++ ys) (cap := grownCap X.w (rows.length + ys.length) sCap e) hg hb hd (ho.append hn) hp (fun j u h => by
      rw [Array.getElem?_append_left (by have := (List.getElem?_eq_some_iff.1 h).1; simpa using this)]
      simpa using h) (by simpa using hge) (by
      rw [Array.size_append, zeroCells_size, hzs]
      simp only [List.size_toArray, List.length_append, ho.len, hn.len]
      rw [← Nat.add_mul, ← Nat.add_mul]
      exact Nat.mul_le_mul_right _ (by omega))
  refine ⟨_, _, ?_, he⟩
  rw [hrun, hw]
  simp only [List.length_append]
  rfl

/-- An append in place. -/
theorem append_room {P : Program} {T : Tys} (hT : TOk P T) {X : Ctx} {vs : List Value} {σ : St} {s o d kd lo : Nat} (hg : Good X vs σ NoE) (hb : Bare X σ d) (hd : d < σ.length) {t u ty e : TypeId} {es : Nat}
    (h1 : T.sl t = some e) {f fy : Bool} {rows ys : List (List PV)} {news : List Value} {xv yv : Value} {i : TypeInfo} (hi : P.info? e = some i) (hsz : i.size = es) (hsrc : Src P i.size u yv ys.length news X.w)
    {blk base tip cap : Nat} {c : Array Value} {elem : TypeId} {fr : Nat × Nat} (hbr : BrRel X s o kd lo xv f es rows blk base tip cap c elem fr) (hkd : kd ≤ 1) (hn : RdN X.w.heap (X.V fy) news es ys) (hroom : rows.length + ys.length ≤ cap) :
    ∃ v X', (Builtin.append_ #[t, u] ty #[xv, yv]).run P X.w = .ok v X'.w ∧ Eff X X' vs (if kd = 0 then move s o d 0 (some es) σ else off s o σ) d v (.c .one [.ow (f || fy) es (rows ++ ys)]) := by
  have hi0 := hg.inv
  have htip := hbr.tip1 hkd
  have hnl : news.length = ys.length * es := hn.len
  have hmul : (rows.length + ys.length) * es ≤ cap * es := Nat.mul_le_mul_right _ hroom
  rw [Nat.add_mul] at hmul
  have hfits := hbr.fits
  have hfit2 : base + lo * es + rows.length * es + news.length ≤ c.size := by rw [hnl]; omega
  have hplace : base + lo * es + rows.length * es = base + tip * es := by rw [← htip, Nat.add_mul]; omega
  obtain ⟨c', hwr, hcc⟩ := wrote_cells blk news (base + lo * es + rows.length * es) hbr.cells hfit2
  have hget := wrote_get hcc hfit2
  have hcs := wrote_size hcc hfit2
  have hrun := run_append_room_src (P := P) X.w t u ty e i (hT.sl t e h1) hi blk (base + lo * es) rows.length cap yv ys.length news hsrc hroom (fun j hj => by
    rw [cell_none hbr.cells, hsz, Array.getElem?_eq_getElem (by omega)]; rfl) (fun j hj => by
    have := hbr.loose (base + lo * es + rows.length * i.size + j) (by rw [hsz]; omega)
    simp only [World.frozen?, hbr.cells]
    simpa using this)
  rw [hsz] at hrun
  let Tg : Nat → Nat → Option Own := fun _ _ => some (d, 1, base + lo * es, rows.length + ys.length)
  have hTg : ∀ b0 t0 t, Tg b0 t0 = some t → t.1 = d ∧ t.2.1 = 0 + 1 := fun b0 t0 t ht => by injection ht with ht; subst ht; exact ⟨rfl, rfl⟩
  let X' : Ctx := (X.retag s o Tg False).turned (X.w.setCells blk (base + lo * es + rows.length * es) news)
  have hwr' : Wrote (X.retag s o Tg False).w (X.w.setCells blk (base + lo * es + rows.length * es) news) blk c' elem fr := hwr
  have hown1 : (X.retag s o Tg False).own blk = some (d, 1, base + lo * es, rows.length + ys.length) := retag_same hbr.own
  have hinv1 : Inv (X.retag s o Tg False) := hi0.retag (fun h => h.elim) (fun base0 tip0 s1 p1 base1 tip1 ht _ b base2 tip2 => by
    injection ht with ht; injection ht with e1 ht; injection ht with e2 ht; subst e1; subst e2
    exact hb.1 0 b base2 tip2)
  have hinv : Inv X' := turned_inv hinv1 hwr'.size
  have hG : Goes X X' := (goes_retag X s o Tg False).trans (turned_goes hwr' hown1)
  have hVb : ∀ fl b, X.V fl b → X'.V fl b ∧ X'.w.heap[b]? = X.w.heap[b]? := fun fl b hv => by
    have h2 := (near_retag (X := X) (s := s) (o := o) (T := Tg) (Q := False)).V fl b hv
    have h3 := turned_V hinv1 hwr' hown1 fl b h2.1
    exact ⟨h3.1, h3.2⟩
  have hNear : Near s o X X' := ⟨hVb, fun b s' p base' tip' h hne => by
    refine ⟨retag_other (T := Tg) (Q := False) h hne, hwr.else_ b fun e => ?_⟩
    subst e
    rw [hbr.own] at h
    injection h with h; injection h with e1 h; injection h with e2 _
    exact hne ⟨e1.symm, e2.symm⟩⟩
  -- what was there reads as before
  have hkeep : ∀ {fl : Bool} {off : Nat} {rs : List (List PV)}, off + rs.length * es ≤ base + tip * es → RdRows X.w.heap (X.V fl) c off es rs → RdRows X'.w.heap (X'.V fl) c' off es rs := fun {fl off rs} hle hr => by
    refine RdRows.mk fun i row he => ?_
    obtain ⟨g1, g2⟩ := hr.get i row he
    refine ⟨g1, RdRow.mk fun j p hj => ?_⟩
    obtain ⟨y, hy, hyr⟩ := g2.get j p hj
    refine ⟨y, ?_, hyr.mono (hVb fl)⟩
    have hil := (List.getElem?_eq_some_iff.1 he).1
    have hjl := (List.getElem?_eq_some_iff.1 hj).1
    have : (i + 1) * es ≤ rs.length * es := Nat.mul_le_mul_right _ hil
    rw [Nat.add_mul] at this
    rw [hget, if_pos (by omega)]
    exact hy
  have hnew : RdRows X'.w.heap (X'.V (f || fy)) c' (base + lo * es) es (rows ++ ys) := by
    obtain ⟨olds, ho, hoc⟩ := rdn_of_rows (hkeep (by rw [← hplace]; exact Nat.le_refl _) hbr.reads)
    have ho2 : RdN X'.w.heap (X'.V (f || fy)) olds es rows := ho.mono fun b hb => ⟨V_or fy hb, rfl⟩
    have hn2 : RdN X'.w.heap (X'.V (f || fy)) news es ys := hn.mono fun b hb => ⟨V_or' f (hVb fy b hb).1, (hVb fy b hb).2⟩
    refine (ho2.append hn2).rows fun j u hj => ?_
    by_cases hj2 : j < olds.length
    · rw [List.getElem?_append_left hj2] at hj
      exact hoc j u hj
    · rw [List.getElem?_append_right (by omega)] at hj
      have hjl := (List.getElem?_eq_some_iff.1 hj).1
      rw [ho.len] at hj hj2 hjl
      rw [hget, if_neg (by omega), if_pos (by omega), ← hj]
      congr 1; omega
  have hbwAt : ∀ b0 bs0 tp0, X.own b0 = some (s, o + 1, bs0, tp0) → b0 = blk ∧ bs0 = base ∧ tp0 = tip := fun b0 bs0 tp0 h => by
    have e1 := hi0.one _ _ _ _ _ _ _ _ h hbr.own
    subst e1
    have e2 := h.symm.trans hbr.own
    injection e2 with e2; injection e2 with _ e2; injection e2 with _ e2; injection e2 with e2 e3
    exact ⟨rfl, e2, e3⟩
  have hframe : Frame X' vs (if kd = 0 then move s o d 0 (some es) σ else off s o σ) := by
    split
    · rename_i hk0
      have hlo := hbr.lo0 hk0
      subst hlo
      refine hg.frame.map (hNear.maps (fun k j c h1 h2 => mvC_else h1 h2) (fun _ _ h => epTo_else h) ?_ ?_ ?_)
      · intro v f1 es1 rows1 hv
        simp only [mvC, and_self, if_true]
        split
        case isFalse => exact .dead v
        rename_i hes
        subst hes
        cases hv with
        | ow0 _ _ a => exact .br0 d 0 2 0 f1 es1 a
        | ow _ _ _ _ blk1 off1 cap1 c1 elem1 fr1 hw =>
          obtain ⟨e1, e2, e3⟩ := hbwAt _ _ _ hw.own
          subst e1; subst e2
          have e4 := hw.cells.symm.trans hbr.cells
          injection e4 with e4; injection e4 with e4 e5 e6
          subst e4; subst e5; subst e6
          refine .br d 0 2 0 f1 es1 rows1 v blk1 off1 (rows.length + ys.length) cap1 c' elem1 fr1 ⟨by rw [hw.val]; simp, hw.le, ?_, hwr.at_, by rw [hcs]; simpa using hw.fits, by rw [hcs]; exact hw.loose, by omega, fun h => by omega, fun _ => rfl, ?_⟩
          · show (X.retag s o Tg False).own blk1 = _
            rw [hown1]; simp
          · rw [Nat.zero_mul, Nat.add_zero]
            exact hkeep (by rw [e3]; exact Nat.le_refl _) hw.reads
      · intro k j v kd1 lo1 f1 es1 rows1 hv
        simp only [mvC, and_self, if_true]
        split
        case isFalse => exact .dead v
        rename_i hes
        subst hes
        cases hv with
        | br0 _ _ _ _ _ _ a => exact .br0 d 0 2 lo1 f1 es1 a
        | br _ _ _ _ _ _ _ _ blk1 base1 tip1 cap1 c1 elem1 fr1 hw =>
          obtain ⟨e1, e2, e3⟩ := hbwAt _ _ _ hw.own
          subst e1; subst e2
          have e4 := hw.cells.symm.trans hbr.cells
          injection e4 with e4; injection e4 with e4 e5 e6
          subst e4; subst e5; subst e6
          have hle1 := hw.tipLe
          refine .br d 0 2 lo1 f1 es1 rows1 v blk1 base1 (rows.length + ys.length) cap1 c' elem1 fr1 ⟨hw.val, hw.le, ?_, hwr.at_, by rw [hcs]; exact hw.fits, by rw [hcs]; exact hw.loose, by omega, fun h => by omega, fun h => by omega, ?_⟩
          · show (X.retag s o Tg False).own blk1 = _
            rw [hown1]; simp
          · refine hkeep ?_ hw.reads
            have : (lo1 + rows1.length) * es1 ≤ tip * es1 := Nat.mul_le_mul_right _ (by omega)
            rw [Nat.add_mul] at this
            omega
        | brv _ _ _ _ _ _ _ hw => exact .brv d 0 lo1 f1 es1 rows1 v (hw.mono (hVb f1))
      · intro k v kd1 fl es1 i1 f1 row hv s' o' e1
        simp [epTo] at e1
    · refine hg.frame.map (hNear.maps (fun k j c h1 h2 => offC_else h1 h2) (fun _ _ h => epOff_else h) ?_ ?_ ?_)
      · intro v f1 es1 rows1 hv
        simp only [offC, and_self, if_true]
        exact .dead v
      · intro k j v kd1 lo1 f1 es1 rows1 hv
        simp only [offC, and_self, if_true]
        exact .dead v
      · intro k v kd1 fl es1 i1 f1 row hv s' o' e1
        rw [epOff_self] at e1; simp at e1
  have htags : TagsE X' (if kd = 0 then move s o d 0 (some es) σ else off s o σ) (fun a b => NoE a b ∨ (a = d ∧ b = 0)) := by
    split
    · have := tags_retag (T := Tg) (Q := False) (e := epTo s o d 0 (some es)) hg.tags (mvC_dead s o d 0 (some es)) (fun k j c hc hn => mvC_ow hc hn) hTg
      exact ⟨this.cell, this.box⟩
    · have := tags_retag (T := Tg) (Q := False) (e := epOff s o) hg.tags (offC_dead s o) (fun k j c hc hn => offC_ow hc hn) hTg
      exact ⟨this.cell, this.box⟩
  have hgood : Good X' vs (if kd = 0 then move s o d 0 (some es) σ else off s o σ) (fun a _ => a = d) := ⟨hinv, hframe, fun b s' p b1 t1 h => (htags.cell b s' p b1 t1 h).imp (fun h => h.elim (fun h => h.elim) (fun h => h.1)) id, htags.box⟩
  have hnb : ∀ b b1 t1, X'.own b ≠ some (d, 0, b1, t1) := fun b b1 t1 h => by
    rcases retag_own_cases (Q := False) h with ⟨h2, _⟩ | ⟨_, _, _, h3⟩
    · exact hb.2.1 _ _ _ h2
    · have := (hTg 0 0 _ h3).2
      simp at this
  rw [hbr.val]
  refine ⟨_, X', hrun, hG, good_set hgood (fun _ _ e => e) (.refl X') hinv (by rw [left_size]; exact hd) (fun b t h => .inl h) hnb ?_ ?_ ?_⟩
  · refine .c .one _ [_] _ (.one _ (fun cs e => nomatch e)) (.cons 0 _ _ _ _ (.ow _ es _ _ blk (base + lo * es) cap c' elem fr ⟨by simp, by simpa using hroom, ?_, hwr.at_, by rw [hcs]; exact hfits, by rw [hcs]; exact hbr.loose, hnew⟩) (.nil 1))
    show (X.retag s o Tg False).own blk = _
    rw [hown1]; simp
  · intro b p b1 t1 h
    rcases retag_own_cases (Q := False) h with ⟨h2, _⟩ | ⟨_, _, _, h3⟩
    · exact absurd h2 (hb.1 p _ _ _)
    · have := (hTg 0 0 _ h3).2
      have hp : p = 0 := by simp at this; omega
      subst hp
      rfl
  · intro b b1 t1 h
    exact absurd h (hnb b b1 t1)

/-- append. -/
theorem append_eff {P : Program} {T : Tys} (hT : TOk P T) {X : Ctx} {vs : List Value} {σ σ' : St} {d : Nat} (hg : Good X vs σ NoE) (hb : Bare X σ d) (hd : d < σ.length) {t u ty : TypeId} {xv yv : Value} {x y sv : SV} (hx : OSV X xv x) (hy : OSV X yv y)
    (hu : ((T.sl u).isSome || T.str u) = true) (h : appendSt T σ d t x y = some (σ', sv)) : ∃ v X', (Builtin.append_ #[t, u] ty #[xv, yv]).run P X.w = .ok v X'.w ∧ Eff X X' vs σ' d v sv := by
  unfold appendSt at h
  obtain ⟨e, e1, h⟩ := some_bind h
  obtain ⟨es, e2, h⟩ := some_bind h
  obtain ⟨bs, e3, h⟩ := some_bind h
  obtain ⟨z, e4, h⟩ := some_bind h
  split at h
  · simp at h
  rename_i hz0
  have hz : z.length = es := Classical.byContradiction fun hh => hz0 (.inl hh)
  have hbs : 0 < bs := Nat.pos_of_ne_zero fun hh => hz0 (.inr hh)
  have hmax : ∀ n : Nat, n * bs ≤ LIM → n ≤ 4611686018427387904 := fun n hn => by
    have : n ≤ n * bs := Nat.le_mul_of_pos_right _ hbs
    unfold LIM at hn
    omega
  obtain ⟨⟨fy, ys⟩, e5, h⟩ := some_bind h
  obtain ⟨c, e6, h⟩ := some_bind h
  obtain ⟨i, hi, hsz⟩ := hT.sz e es e2
  obtain ⟨news, hsrc, hn⟩ := src_ok (P := P) hT hy hu hsz e5
  obtain ⟨hc, _⟩ := one_sv hx e6
  simp only at h
  split at h
  · rename_i f0 es0
    split at h
    case isFalse => simp at h
    rename_i hlim
    injection h with h; injection h with h1 h2; subst h1; subst h2
    obtain ⟨_, a, e7⟩ := no_ow hc
    subst e7
    cases ys with
    | nil =>
      have hrun := run_append_nothing (P := P) X.w t u ty e i (hT.sl t e e1) hi a 0 0 (Nat.le_refl _) yv (by
        have : news = [] := List.length_eq_zero_iff.1 (by rw [hn.len]; simp)
        rw [← this]; exact hsrc)
      refine ⟨_, X, hrun, eff_pure hg hb hd (.same hg.inv fun k => .c .one _ [_] _ (.one _ (fun cs e => nomatch e)) (.cons 0 _ _ _ _ (.ow0 fy es a) (.nil 1)))⟩
    | cons y1 ys =>
      have := append_grow (P := P) hT (X := X) (X1 := X) rfl hg hb hd (t := t) (u := u) (ty := ty) e1 e2 e3 e4 hz (base := a) (sCap := 0) (f := fy) (rows := []) (ys := y1 :: ys) (olds := []) hi hsz hsrc (firstCells_zero _ _ _ _) ⟨by simp, fun i row e => by simp at e⟩ hn (by simp) (by simpa using hlim) (by simpa using hmax _ hlim)
      simpa using this
  · rename_i s o kd lo f es' rows
    split at h
    case isFalse => simp at h
    rename_i hcond
    obtain ⟨rfl, hkd, how, hlim⟩ := hcond
    injection h with h; injection h with h1 h2; subst h1; subst h2
    have hgrow : ∀ {base : Option Addr} {sCap : Nat} {olds : List Value}, xv = .slice base rows.length sCap → (Builtin.firstCells i.size rows.length (.slice base rows.length sCap)).run P X.w.drew = .ok olds.toArray X.w.drew → RdN X.w.heap (X.V f) olds es' rows → sCap < rows.length + ys.length →
        ∃ v X', (Builtin.append_ #[t, u] ty #[xv, yv]).run P X.w = .ok v X'.w ∧ Eff X X' vs (if kd = 0 then move s o d 0 (some es') σ else off s o σ) d v (.c .one [.ow (f || fy) es' (rows ++ ys)]) := fun {base sCap olds} e7 hold ho hgr => by
      subst e7
      have hb1 := left_bare hb s o kd es' (T := fun _ _ => none) (fun _ _ => rfl) True
      have hnV : ∀ fl b, X.V fl b → (X.retag s o (fun _ _ => none) True).V fl b ∧ (X.retag s o (fun _ _ => none) True).w.heap[b]? = X.w.heap[b]? := (near_retag).V
      obtain ⟨v, X', hr, hE⟩ := append_grow (P := P) hT (X := X) (X1 := X.retag s o (fun _ _ => none) True) rfl (left_good hg s o d kd es') hb1 (by rw [left_size]; exact hd) (t := t) (u := u) (ty := ty) e1 e2 e3 e4 hz (base := base) (sCap := sCap) (f := f || fy) (rows := rows) (ys := ys) (olds := olds) hi hsz hsrc hold
        (ho.mono fun b hb => ⟨V_or fy (hnV f b hb).1, rfl⟩) (hn.mono fun b hb => ⟨V_or' f (hnV fy b hb).1, rfl⟩) hgr hlim (by rw [Nat.add_comm]; exact hmax _ hlim)
      exact ⟨v, X', hr, (goes_retag X s o _ True).trans hE.goes, hE.good⟩
    have hc0 := hc 0
    cases hc0 with
    | br0 _ _ _ _ _ _ a =>
      cases ys with
      | nil =>
        have hrun := run_append_nothing (P := P) X.w t u ty e i (hT.sl t e e1) hi a 0 0 (Nat.le_refl _) yv (by
          have : news = [] := List.length_eq_zero_iff.1 (by rw [hn.len]; simp)
          rw [← this]; exact hsrc)
        have hE := eff_pure (left_good hg s o d kd es') (left_bare hb s o kd es' (T := fun _ _ => none) (fun _ _ => rfl) True) (by rw [left_size]; exact hd) (PureRes.same (left_good hg s o d kd es').inv (v := .slice a 0 0) (sv := .c .one [.ow (f || fy) es' []]) fun k => .c .one _ [_] _ (.one _ (fun cs e => nomatch e)) (.cons 0 _ _ _ _ (.ow0 _ es' a) (.nil 1)))
        exact ⟨_, X.retag s o (fun _ _ => none) True, hrun, (goes_retag X s o _ True).trans hE.goes, hE.good⟩
      | cons y1 ys => exact hgrow rfl (firstCells_zero _ _ _ _) ⟨by simp, fun i row e => by simp at e⟩ (by simp)
    | br _ _ _ _ _ _ _ _ blk base tip cap c1 elem fr hbr =>
      by_cases hroom : rows.length + ys.length ≤ cap
      · exact append_room hT hg hb hd e1 hi hsz hsrc hbr hkd hn hroom
      · obtain ⟨olds, ho, hoc⟩ := rdn_of_rows hbr.reads
        exact hgrow hbr.val (firstCells_at (w := X.w.drew) hbr.cells (by rw [hsz]; exact ho.len) hoc _) ho (by omega)
    | brv => omega
  · simp at h

end Go.Proofs.Ytlbigobmhglppaa.R
