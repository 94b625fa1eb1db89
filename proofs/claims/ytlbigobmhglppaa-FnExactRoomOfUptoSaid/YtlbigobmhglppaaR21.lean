/- Stores, as operations. -/
import Derived.Test.YtlbigobmhglppaaR20
set_option linter.unusedVariables false
set_option linter.unusedSimpArgs false
namespace Go.Proofs.Ytlbigobmhglppaa.R
open Go

theorem run_storeAt {P : Program} {T : Tys} (hT : TOk P T) {w : World} {t : TypeId} {n : Nat} (hs : T.sz t = some n) {b o : Nat} {v : Value} (hl : v.cells.toList.length = n) {w' : World} (h : (storeCells ⟨b, o, none⟩ v.cells.toList).run P w = .ok () w') :
    (Instr.storeAt t (.pointer (some ⟨b, o, none⟩)) v).run P w = .ok () w' := by
  obtain ⟨i, h1, h2⟩ := hT.sz t n hs
  have h3 : v.cells.size = i.size := by rw [h2, ← hl]; simp
  simp only [Instr.storeAt, Sem.run_bind, sure_ok, Result.andThen_ok, storeVar, run_siz h1]
  rw [if_neg (by simp [h3])]
  exact h

/-- A store into a variable. -/
theorem store_bp {P : Program} {T : Tys} (hT : TOk P T) {X : Ctx} {a : Act} {gv : List Value} {σ : St} (hg : Good X (All a gv) σ NoE) {N : Nat} (hN : N = a.tmps.size) {oty t : TypeId} {n s o : Nat} (hn : T.sz t = some n) {p x : Operand} {cs : List CV}
    (hp : opd T N oty (demoteAll s o n σ) p = .bp s o) (hx : cells? (opd T N oty (demoteAll s o n σ) x) = some cs) (hlen : cs.length = n) {σ2 : St} {l' l : List CV} (h : persistAll s o cs (demoteAll s o n σ) = some (σ2, l'))
    (hl : σ2.getD s .undef = .c .box l) (hfit : o + n ≤ l.length) :
    ∃ X', (Instr.storeAt t (a.eval p) (a.eval x)).run P X.w = .ok () X'.w ∧ Goes X X' ∧ Good X' (All a gv) (σ2.set s (.c .box (lay l' o l))) NoE := by
  obtain ⟨X1, k1, hno⟩ := demoteAll_good (All a gv) s n o hg
  have hp1 := opd_sv (T := T) (ty := oty) k1.good hN p
  have hx1 := opd_sv (T := T) (ty := oty) k1.good hN x
  rw [hp] at hp1
  obtain ⟨hc, _⟩ := cells_flat hx1 hx
  obtain ⟨X2, q⟩ := persistAll_good (All a gv) s k1.good hc.ocells (fun p h1 h2 => ⟨free_of k1.good (hno p h1 (by omega)), hno p h1 (by omega)⟩) h
  have hq1 := cells_one h
  have hp0 := hp1 0
  generalize hpv : a.eval p = pv at hp0
  cases hp0 with
  | bp _ _ blk base tip ho =>
    -- the variable's block, as it is now
    have hσ2 : σ2[s]? = some (.c .box l) := by
      rw [List.getD_eq_getElem?_getD] at hl
      cases e : σ2[s]? with
      | none => rw [e] at hl; simp at hl
      | some y => rw [e] at hl; simpa using hl
    have hlt : s < σ2.length := (List.getElem?_eq_some_iff.1 hσ2).1
    have hlv : s < (All a gv).length := by rw [q.good.frame.1]; exact hlt
    have hfr := q.good.frame.2 s _ _ (List.getElem?_eq_getElem hlv) hσ2
    obtain ⟨blk2, base2, tip2, c, elem, fr, hv2, ho2, hb2, hfr2, hcr2⟩ := box_inv hfr
    -- it is the block that the address names
    have hσ1 : ∃ l1, (demoteAll s o n σ)[s]? = some (.c .box l1) := k1.good.tags.box _ _ _ _ ho
    obtain ⟨l1, hl1⟩ := hσ1
    have hfr1 := k1.good.frame.2 s _ _ (List.getElem?_eq_getElem hlv) hl1
    obtain ⟨blk1, base1, tip1, c1, elem1, fr1, hv1, ho1, _, _, _⟩ := box_inv hfr1
    have e1 : blk = blk1 := k1.good.inv.one _ _ _ _ _ _ _ _ ho ho1
    rw [hv1] at hv2
    injection hv2 with hv2; injection hv2 with hv2; injection hv2 with hv2
    subst e1; subst hv2
    have hcl := CellsRel.length hcr2
    have hql := CellsRel.length q.cells
    have hw2 : X2.w = X.w := q.w.trans k1.w
    have hvl : (a.eval x).cells.toList.length = n := by rw [hql, q.len, hlen]
    obtain ⟨w', c', hrun, hwr, hcc⟩ := run_write (P := P) (w := X2.w) (b := blk) (o := o) hb2 hfr2 (vs := (a.eval x).cells.toList) (by
      have : c.size = l.length := by simpa using hcl
      rw [hvl]; omega) (cells_oneCell q.cells fun c hc => (hq1 c hc).1)
    rw [hw2] at hrun
    refine ⟨X2.turned w', run_storeAt hT hn hvl hrun, (k1.goes.trans q.goes).trans (turned_goes hwr ho2), ?_, ⟨?_, ?_⟩, ?_, ?_⟩
    · exact turned_inv q.good.inv hwr.size
    · simpa using q.good.frame.1
    · intro k v sv hv hs
      by_cases hk : k = s
      · subst hk
        rw [List.getElem?_set_self hlt] at hs
        injection hs with hs; subst hs
        have : v = .pointer (some ⟨blk, 0, none⟩) := by
          rw [List.getElem?_eq_getElem hlv] at hv
          injection hv with hv
          rw [← hv, hv1]
        subst this
        refine .box blk base2 tip2 c' elem fr _ ho2 hwr.at_ ?_ ?_
        · have : c'.size = c.size := by
            have e3 := congrArg List.length hcc
            have e4 : c.size = l.length := by simpa using hcl
            simp only [List.length_append, List.length_take, List.length_drop, Array.length_toList] at e3
            simp only [Array.length_toList] at hvl
            omega
          rw [this]; exact hfr2
        · refine turned_cells q.good.inv hwr ho2 ?_
          rw [hcc]
          have e4 : c.size = l.length := by simpa using hcl
          have hn' : l'.length = n := by rw [q.len, hlen]
          unfold lay
          refine CellsRel.append (CellsRel.append (hcr2.take o) ?_) ?_
          · rw [List.length_take, Nat.zero_add, Nat.min_eq_left (by omega)]
            exact q.cells
          · rw [hvl, hn']
            have := hcr2.drop (o + n)
            rw [List.length_append, List.length_take, hn', Nat.min_eq_left (by omega)]
            exact this
      · rw [List.getElem?_set_ne (Ne.symm hk)] at hs
        exact turned_sv q.good.inv hwr ho2 hk (q.good.frame.2 k v sv hv hs)
    · intro b s' p' base tip hb
      right
      have hcell : ∀ p', (cellAt (σ2.set s (.c .box (lay l' o l))) s p') = (lay l' o l).getD p' .dead := fun p' => cellAt_of (List.getElem?_set_self hlt)
      have hn' : l'.length = n := by rw [q.len, hlen]
      have hlay : ∀ p', (lay l' o l).getD p' .dead = if p' < o then l.getD p' .dead else if p' < o + n then l'.getD (p' - o) .dead else l.getD p' .dead := fun p' => by
        unfold lay
        rw [List.getD_eq_getElem?_getD]
        split
        · rename_i h1
          rw [List.append_assoc, List.getElem?_append_left (by rw [List.length_take]; omega), List.getElem?_take, if_pos h1, ← List.getD_eq_getElem?_getD]
        · rename_i h1
          split
          · rename_i h2
            rw [List.append_assoc, List.getElem?_append_right (by rw [List.length_take]; omega), List.length_take, Nat.min_eq_left (by omega), List.getElem?_append_left (by omega), ← List.getD_eq_getElem?_getD]
          · rename_i h2
            rw [List.getElem?_append_right (by rw [List.length_append, List.length_take]; omega), List.length_append, List.length_take, Nat.min_eq_left (by omega), List.getElem?_drop, ← List.getD_eq_getElem?_getD]
            congr 1; omega
      by_cases hs : s' = s
      · subst hs
        rw [hcell, hlay]
        have hold := q.good.tags.cell b s' p' base tip hb
        rw [cellAt_of hσ2] at hold
        split
        · rename_i h1
          exact hold.resolve_left (by rintro (e | ⟨_, e, _⟩); exact e.elim; omega)
        · rename_i h1
          split
          · rename_i h2
            cases hh : (l'.getD (p' - o) .dead).isOw with
            | true => rfl
            | false =>
              have e1 : l'[p' - o]? = some (l'[p' - o]'(by omega)) := List.getElem?_eq_getElem (by omega)
              have := q.tag (p' - o) _ e1 (by simpa [List.getD_eq_getElem?_getD, e1] using hh)
              rw [show o + (p' - o) = p' from by omega] at this
              exact absurd hb (this b base tip)
          · rename_i h2
            exact hold.resolve_left (by rintro (e | ⟨_, e, e'⟩); exact e.elim; omega)
      · have hold := (q.good.tags.cell b s' p' base tip hb).resolve_left (by rintro (e | ⟨e, _⟩); exact e.elim; exact hs e)
        unfold cellAt at hold ⊢
        rw [List.getD_eq_getElem?_getD] at hold ⊢
        rw [List.getElem?_set_ne (Ne.symm hs)]
        exact hold
    · intro b s' base tip hb
      by_cases hs : s' = s
      · subst hs; exact ⟨_, List.getElem?_set_self hlt⟩
      · obtain ⟨l3, h3⟩ := q.good.tags.box b s' base tip hb
        exact ⟨l3, by rw [List.getElem?_set_ne (Ne.symm hs)]; exact h3⟩

end Go.Proofs.Ytlbigobmhglppaa.R
