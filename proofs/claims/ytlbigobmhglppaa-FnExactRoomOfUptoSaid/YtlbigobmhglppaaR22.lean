/- A store into a slice that its cell owns. -/
import Derived.Test.YtlbigobmhglppaaR21
set_option linter.unusedVariables false
set_option linter.unusedSimpArgs false
namespace Go.Proofs.Ytlbigobmhglppaa.R
open Go

theorem turned_near {X : Ctx} (hi : Inv X) {w' : World} {b s o base0 tip0 : Nat} {c : Array Value} {elem : TypeId} {fr : Nat × Nat} (h : Wrote X.w w' b c elem fr) (ho : X.own b = some (s, o + 1, base0, tip0)) : Near s o X (X.turned w') where
  V := fun f k hk => turned_V hi h ho f k hk
  own := fun k s' p base tip hk hne => ⟨hk, h.else_ k fun e => by
    subst e
    rw [ho] at hk
    injection hk with hk; injection hk with h1 hk; injection hk with h2 _
    exact hne ⟨h1.symm, h2.symm⟩⟩

/-- The slice that a cell owns has new rows, as many as before. -/
theorem turn_good {X : Ctx} {vs : List Value} {σ : St} {E : Nat → Nat → Prop} (hg : Good X vs σ E) {w' : World} {b s o base tip : Nat} {c' : Array Value} {elem : TypeId} {fr : Nat × Nat} (h : Wrote X.w w' b c' elem fr) (ho : X.own b = some (s, o + 1, base, tip))
    {c : Array Value} (hc : X.w.heap[b]? = some (.cells c elem fr)) (hsz : c'.size = c.size) {f0 f' : Bool} {es : Nat} {rows rows' : List (List PV)} (hcell : cellAt σ s o = .ow f0 es rows) (hlen : rows.length = rows'.length)
    (hr : RdRows w'.heap ((X.turned w').V (f0 || f')) c' base es rows') : Goes X (X.turned w') ∧ Good (X.turned w') vs (turn s o f0 es f' rows' σ) E := by
  have hi := hg.inv
  have hN := turned_near hi h ho
  have hm : Maps X (X.turned w') (turnC s o f0 es f' rows') (epOff s o) := by
    refine hN.maps (fun k j c h1 h2 => turnC_else h1 h2) (fun a b => epOff_else) ?_ ?_ ?_
    · intro v f es1 rows1 hv
      simp only [turnC, and_self, if_true]
      split
      · rename_i hcond
        obtain ⟨rfl, rfl, h2⟩ := hcond
        cases hv with
        | ow0 _ _ a =>
          have : rows' = [] := List.length_eq_zero_iff.1 (by rw [← h2]; rfl)
          subst this
          exact .ow0 _ _ a
        | ow _ _ _ _ blk off cap c2 elem2 fr2 hw =>
          have e1 : blk = b := hi.one _ _ _ _ _ _ _ _ hw.own ho
          subst e1
          have e2 := hw.own.symm.trans ho
          injection e2 with e2; injection e2 with _ e2; injection e2 with _ e2; injection e2 with e2 e3
          subst e2
          have e4 := hw.cells.symm.trans hc
          injection e4 with e4; injection e4 with e4 e5 e6
          subst e4; subst e5; subst e6
          refine .ow _ _ rows' _ blk off cap c' elem2 fr2 ⟨by rw [hw.val, h2], by rw [← h2]; exact hw.le, by rw [← h2]; exact hw.own, h.at_, by rw [hsz]; exact hw.fits, by rw [hsz]; exact hw.loose, hr⟩
      · exact .dead v
    · intro k j v kd lo f es1 rows1 hv
      simp only [turnC, and_self, if_true]
      exact .dead v
    · intro k v kd fl es1 i f row hv s' o' e
      rw [epOff_self] at e; simp at e
  refine ⟨turned_goes h ho, turned_inv hi h.size, hg.frame.map hm, ?_, ?_⟩
  · intro b' s' p base' tip' hb
    refine (hg.tags.cell b' s' p base' tip' hb).imp id fun h1 => ?_
    unfold turn
    rw [cellAt_map_ow _ _ σ s' p (turnC_dead ..) h1]
    by_cases hk : s' = s ∧ p = o
    · obtain ⟨rfl, rfl⟩ := hk
      rw [hcell]
      simp only [turnC, and_self, if_true]
      rw [if_pos ⟨trivial, trivial, hlen⟩]
      rfl
    · rw [turnC_else (fun f es1 rows1 e => hk) (fun a b kd lo f es1 rows1 e => by rw [e] at h1; simp [CV.isOw] at h1)]
      exact h1
  · intro b' s' base' tip' hb
    exact mapSt_box (hg.tags.box b' s' base' tip' hb)

theorem rows_set' {h : Array Obj} {V : Nat → Prop} {c c' : Array Value} {es base : Nat} {rows : List (List PV)} {i : Nat} {ps : List PV} (hr : RdRows h V c base es rows) (hi : i < rows.length) (hl : ps.length = es)
    (h1 : ∀ (j : Nat) (p : PV), ps[j]? = some p → ∃ x, c'[base + i * es + j]? = some x ∧ Rd h V x p) (h2 : ∀ k, (k < base + i * es ∨ base + i * es + es ≤ k) → c'[k]? = c[k]?) : RdRows h V c' base es (rows.set i ps) := by
  refine RdRows.mk fun k row hk => ?_
  by_cases hki : k = i
  · subst hki
    rw [List.getElem?_set_self hi] at hk
    injection hk with hk; subst hk
    exact ⟨hl, RdRow.mk fun j p hj => h1 j p hj⟩
  · rw [List.getElem?_set_ne (Ne.symm hki)] at hk
    obtain ⟨g1, g2⟩ := hr.get k row hk
    refine ⟨g1, RdRow.mk fun j p hj => ?_⟩
    obtain ⟨x, hx, hrd⟩ := g2.get j p hj
    refine ⟨x, ?_, hrd⟩
    rw [← hx]
    have hjl := (List.getElem?_eq_some_iff.1 hj).1
    rw [g1] at hjl
    refine h2 _ ?_
    rcases Nat.lt_or_gt_of_ne hki with h | h
    · left
      have : (k + 1) * es ≤ i * es := Nat.mul_le_mul_right _ h
      rw [Nat.add_mul] at this; omega
    · right
      have : (i + 1) * es ≤ k * es := Nat.mul_le_mul_right _ h
      rw [Nat.add_mul] at this; omega

theorem layP_get {l r : List PV} {j k : Nat} (h : j + l.length ≤ r.length) : (layP l j r)[k]? = if k < j then r[k]? else if k < j + l.length then l[k - j]? else r[k]? := by
  unfold layP
  split
  · rename_i h1
    rw [List.append_assoc, List.getElem?_append_left (by rw [List.length_take]; omega), List.getElem?_take, if_pos h1]
  · split
    · rw [List.append_assoc, List.getElem?_append_right (by rw [List.length_take]; omega), List.length_take, Nat.min_eq_left (by omega), List.getElem?_append_left (by omega)]
    · rw [List.getElem?_append_right (by rw [List.length_append, List.length_take]; omega), List.length_append, List.length_take, Nat.min_eq_left (by omega), List.getElem?_drop]
      congr 1; omega
theorem layP_length {l r : List PV} {j : Nat} (h : j + l.length ≤ r.length) : (layP l j r).length = r.length := by
  unfold layP; simp; omega

theorem wrote_get {c c' : Array Value} {o : Nat} {vs : List Value} (h : c'.toList = c.toList.take o ++ vs ++ c.toList.drop (o + vs.length)) (hl : o + vs.length ≤ c.size) (k : Nat) : c'[k]? = if k < o then c[k]? else if k < o + vs.length then vs[k - o]? else c[k]? := by
  rw [← Array.getElem?_toList, h]
  split
  · rename_i h1
    rw [List.append_assoc, List.getElem?_append_left (by rw [List.length_take]; simp; omega), List.getElem?_take, if_pos h1]
    simp
  · split
    · rw [List.append_assoc, List.getElem?_append_right (by rw [List.length_take]; simp; omega), List.length_take, Nat.min_eq_left (by simp; omega), List.getElem?_append_left (by omega)]
    · rw [List.getElem?_append_right (by rw [List.length_append, List.length_take]; simp; omega), List.length_append, List.length_take, Nat.min_eq_left (by simp; omega), List.getElem?_drop]
      rw [← Array.getElem?_toList]
      congr 1; omega

theorem wrote_size {c c' : Array Value} {o : Nat} {vs : List Value} (h : c'.toList = c.toList.take o ++ vs ++ c.toList.drop (o + vs.length)) (hl : o + vs.length ≤ c.size) : c'.size = c.size := by
  have e := congrArg List.length h
  simp at e
  omega

/-- A store into an element of a slice. -/
theorem store_ep {P : Program} {T : Tys} (hT : TOk P T) {X : Ctx} {a : Act} {gv : List Value} {σ : St} (hg : Good X (All a gv) σ NoE) {N : Nat} (hN : N = a.tmps.size) {oty t : TypeId} {n s o kd i f : Nat} {fl : Bool} {es : Nat} {row0 row : List PV} (hn : T.sz t = some n) {p x : Operand} {cs : List CV}
    (hx : cells? (opd T N oty σ x) = some cs) (hlen : cs.length = n) {σ1 : St} {f' : Bool} {ps : List PV} (h : nestAll cs σ = some (σ1, f', ps))
    (hp : opd T N oty σ1 p = .ep s o kd fl es i f row0) (hkd : kd ≤ 1) {f0 : Bool} {rows : List (List PV)} (hcell : cellAt σ1 s o = .ow f0 es rows) (hrow : rows[i]? = some row) (hfit : f + n ≤ row.length) :
    ∃ X', (Instr.storeAt t (a.eval p) (a.eval x)).run P X.w = .ok () X'.w ∧ Goes X X' ∧ Good X' (All a gv) (turn s o f0 es f' (rows.set i (layP ps f row)) σ1) NoE := by
  have hx0 := opd_sv (T := T) (ty := oty) hg hN x
  obtain ⟨hc, _⟩ := cells_flat hx0 hx
  obtain ⟨X1, k1, hr⟩ := nestAll_good (All a gv) hg hc.ocells h
  have hp1 := opd_sv (T := T) (ty := oty) k1.good hN p
  rw [hp] at hp1
  have hp0 := hp1 0
  generalize hpv : a.eval p = pv at hp0
  have hps : ps.length = n := by rw [← hr.length, hc.length, hlen]
  have hvl : (a.eval x).cells.toList.length = n := by rw [hc.length, hlen]
  have hil : i < rows.length := (List.getElem?_eq_some_iff.1 hrow).1
  -- the owner
  obtain ⟨sh, l, hσ1, hlo⟩ : ∃ sh l, σ1[s]? = some (.c sh l) ∧ l.getD o .dead = .ow f0 es rows := by
    unfold cellAt at hcell
    rw [List.getD_eq_getElem?_getD] at hcell
    cases e : σ1[s]? with
    | none => simp [e] at hcell
    | some y =>
      cases y with
      | c sh l => exact ⟨sh, l, rfl, by simpa [e] using hcell⟩
      | _ => simp [e] at hcell
  have hlt : s < σ1.length := (List.getElem?_eq_some_iff.1 hσ1).1
  have hlv : s < (All a gv).length := by rw [k1.good.frame.1]; exact hlt
  have hfr := k1.good.frame.2 s _ _ (List.getElem?_eq_getElem hlv) hσ1
  generalize (All a gv)[s] = v1 at hfr
  have hcv : ∃ v, CVRel X1 s o v (.ow f0 es rows) := by
    have : ∀ {vs : List Value} {l : List CV} {j : Nat}, CellsRel X1 s j vs l → ∀ q c, l[q]? = some c → ∃ v, CVRel X1 s (j + q) v c := by
      intro vs l j hcr
      induction hcr with
      | nil j => intro q c e; simp at e
      | cons j v cv vs l h t ih =>
        intro q c e
        cases q with
        | zero => simp at e; subst e; exact ⟨v, h⟩
        | succ q =>
          obtain ⟨u, hu⟩ := ih q c (by simpa using e)
          exact ⟨u, by rw [show j + (q + 1) = j + 1 + q from by omega]; exact hu⟩
    have e1 : l[o]? = some (.ow f0 es rows) := by
      rw [List.getD_eq_getElem?_getD] at hlo
      cases e : l[o]? with
      | none => simp [e] at hlo
      | some y => simpa [e] using hlo
    have hcr : ∃ vs, CellsRel X1 s 0 vs l := by
      cases sh with
      | box => obtain ⟨_, _, _, c, _, _, _, _, _, _, hcr⟩ := box_inv hfr; exact ⟨_, hcr⟩
      | _ => cases hfr with | c _ _ vs _ hf hcr => exact ⟨vs, hcr⟩
    obtain ⟨vs, hcr⟩ := hcr
    obtain ⟨v, hv⟩ := this hcr o _ e1
    exact ⟨v, by simpa using hv⟩
  obtain ⟨v0, hcv⟩ := hcv
  cases hcv with
  | ow0 => simp at hrow
  | ow _ _ _ _ blk off cap c elem fr hw =>
    cases hp0 with
    | epv => omega
    | ep _ _ _ _ _ _ _ _ blk1 off1 base tip c1 elem1 fr1 ho1 he1 hl1 hb1 hfr1 hr1 =>
      have e1 : blk1 = blk := k1.good.inv.one _ _ _ _ _ _ _ _ ho1 hw.own
      subst e1
      have e2 := ho1.symm.trans hw.own
      injection e2 with e2; injection e2 with _ e2; injection e2 with _ e2; injection e2 with e2 e3
      subst e2; subst e3
      obtain ⟨g1, g2⟩ := hw.reads.get i row hrow
      have hsz1 : base + i * es + es ≤ c.size := by
        have h1 : (i + 1) * es ≤ cap * es := Nat.mul_le_mul_right _ (by have := hw.le; omega)
        rw [Nat.add_mul] at h1
        have := hw.fits
        omega
      have hw1 : X1.w = X.w := k1.w
      have hone : ∀ v ∈ (a.eval x).cells.toList, v.oneCell' = true := by
        have : ∀ {vs : List Value} {ps : List PV}, RdL X1 f' vs ps → ∀ v ∈ vs, v.oneCell' = true := by
          intro vs ps hr
          induction hr with
          | nil => intro v hv; simp at hv
          | cons v p vs ps h t ih =>
            intro u hu
            rcases List.mem_cons.1 hu with e | e
            · subst e; exact rd_one h
            · exact ih u e
        exact this hr
      obtain ⟨w', c', hrun, hwr, hcc⟩ := run_write (P := P) (w := X1.w) (b := blk1) (o := off1 + f) hw.cells hw.loose (vs := (a.eval x).cells.toList) (by rw [hvl, he1]; omega) hone
      have hfit2 : off1 + f + (a.eval x).cells.toList.length ≤ c.size := by rw [hvl, he1]; omega
      have hget := wrote_get hcc hfit2
      have hV : ∀ fl b, X1.V fl b → (X1.turned w').V fl b ∧ w'.heap[b]? = X1.w.heap[b]? := fun fl b hb => turned_V k1.good.inv hwr ho1 fl b hb
      have hrows : RdRows w'.heap ((X1.turned w').V (f0 || f')) c' base es (rows.set i (layP ps f row)) := by
        have hr0 : RdRows w'.heap ((X1.turned w').V (f0 || f')) c base es rows := hw.reads.mono fun b hb => ⟨(hV _ b (V_or f' hb)).1, (hV _ b hb).2⟩
        have hlp : f + ps.length ≤ row.length := by omega
        refine rows_set' hr0 hil (by rw [layP_length hlp]; exact g1) (fun j q hj => ?_) fun k hk => ?_
        · rw [layP_get hlp] at hj
          rw [hget]
          rw [hvl, he1]
          split at hj
          · rename_i h1
            rw [if_pos (by omega)]
            obtain ⟨y, hy, hyr⟩ := g2.get j q hj
            exact ⟨y, hy, hyr.mono fun b hb => ⟨(hV _ b (V_or f' hb)).1, (hV _ b hb).2⟩⟩
          · rename_i h1
            split at hj
            · rename_i h2
              rw [if_neg (by omega), if_pos (by omega)]
              obtain ⟨y, hy, hyr⟩ := hr.get (j - f) q hj
              refine ⟨y, ?_, hyr.mono fun b hb => ⟨(hV _ b (V_or' f0 hb)).1, (hV _ b hb).2⟩⟩
              rw [← hy]; congr 1; omega
            · rename_i h2
              rw [if_neg (by omega), if_neg (by omega)]
              obtain ⟨y, hy, hyr⟩ := g2.get j q hj
              exact ⟨y, hy, hyr.mono fun b hb => ⟨(hV _ b (V_or f' hb)).1, (hV _ b hb).2⟩⟩
        · rw [hget, hvl, he1]
          rcases hk with hk | hk
          · rw [if_pos (by omega)]
          · rw [if_neg (by omega), if_neg (by omega)]
      obtain ⟨G, hgood⟩ := turn_good k1.good hwr ho1 hw.cells (wrote_size hcc hfit2) hcell (by simp) hrows
      rw [hw1] at hrun
      exact ⟨X1.turned w', run_storeAt hT hn hvl hrun, k1.goes.trans G, hgood⟩

end Go.Proofs.Ytlbigobmhglppaa.R
