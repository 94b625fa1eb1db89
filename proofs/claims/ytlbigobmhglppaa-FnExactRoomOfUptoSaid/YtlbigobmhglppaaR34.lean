/- What is handed in, as plain values: the reading opened. -/
import Derived.Test.YtlbigobmhglppaaR33
set_option linter.unusedVariables false
set_option linter.unusedSimpArgs false
namespace Go.Proofs.Ytlbigobmhglppaa.R
open Go

section
variable {H : Type} {enc : TypeId × Value → H} {P : Program} {W : World} {B : DataW H → Nat} {BA : List (DataW H) → Nat}

/-- The reading of cells cs as a value of type s. -/
def Opens (W : World) (s : STy) (cs : List Value) (n : Nat) : Prop := ∃ pl m, Fits s pl m ∧ m ≤ n ∧ RdL (entry W) true cs pl

theorem opens_rows {e : TypeId} {s : STy} {b off : Nat} {c : Array Value} {elem : TypeId} {fr : Nat × Nat} (hb : W.heap[b]? = some (.cells c elem fr)) (hlt : b < W.heap.size) : ∀ (len i : Nat) (ds : List (DataW H)), ds.length = len →
    (∀ (j : Nat) (d : DataW H), ds[j]? = some d → ∃ cs, (∀ (q : Nat) (v : Value), cs[q]? = some v → c[off + (i + j) * s.size + q]? = some v) ∧ Opens W s cs (B d)) → (BL : BulkLaw B BA) →
    ∃ rows m, FitsRows s rows m ∧ m ≤ BA ds ∧ rows.length = len ∧ RdRows W.heap ((entry W).V true) c (off + i * s.size) s.size rows
  | 0, i, ds, hl, H, BL => by
    have : ds = [] := List.length_eq_zero_iff.1 hl
    subst this
    exact ⟨[], 0, .nil s, Nat.zero_le _, rfl, .nil _ _ _⟩
  | len + 1, i, ds, hl, H, BL => by
    cases ds with
    | nil => simp at hl
    | cons d ds =>
      obtain ⟨cs, hcs, pl, m, hf, hm, hr⟩ := H 0 d rfl
      obtain ⟨rows, m', h1, h2, h3, h4⟩ := opens_rows (e := e) hb hlt len (i + 1) ds (by simpa using hl) (fun j d' hd => by
        obtain ⟨cs', g1, g2⟩ := H (j + 1) d' (by simpa using hd)
        refine ⟨cs', fun q v hv => ?_, g2⟩
        have := g1 q v hv
        rw [show i + 1 + j = i + (j + 1) from by omega]
        exact this) BL
      refine ⟨pl :: rows, m + m', .cons s pl rows m m' hf h1, ?_, by simp [h3], .cons c _ _ pl rows hf.length ?_ ?_⟩
      · have := BL.cons d ds; omega
      · refine RdRow.mk fun j p hj => ?_
        obtain ⟨v, hv, hrd⟩ := hr.get j p hj
        exact ⟨v, by simpa using hcs j v hv, hrd⟩
      · rw [show off + i * s.size + s.size = off + (i + 1) * s.size from by rw [Nat.add_mul]; omega]
        exact h4

theorem opens_fields (BL : BulkLaw B BA) {n : Nat} {sp : Nat → Bool} {held : Bool} (ih : ∀ {t : TypeId} {cs : List Value} {d : DataW H} {ps : List MemPlace} {s : STy}, OfTy P t s → DataW.trod enc P W 0 sp held n t cs = some (d, ps) → Opens W s cs (B d)) {cs : List Value} :
    ∀ {o : Nat} {fs : List Field} {s : STy} {xs : List (DataW H × List MemPlace)}, OfFields P o fs s → xs.length = fs.length → (∀ (i : Nat) (f : Field), fs[i]? = some f → DataW.trod enc P W 0 sp held n f.type ((cs.drop f.offset).take (P.cellsOf f.type)) = xs[i]?) → o + s.size ≤ cs.length →
      ∃ pl m, Fits s pl m ∧ m ≤ BA (xs.map (·.1)) ∧ RdL (entry W) true ((cs.drop o).take s.size) pl
  | o, [], s, xs, hs, hl, H, hc => by
    cases hs
    exact ⟨[], 0, .nil, Nat.zero_le _, by simpa [STy.size] using RdL.nil⟩
  | o, f :: fs, s, xs, hs, hl, H, hc => by
    cases hs with
    | cons _ _ _ a b ho hf hsz hfs =>
      cases xs with
      | nil => simp at hl
      | cons x xs =>
        have h0 := H 0 f rfl
        simp only [List.getElem?_cons_zero] at h0
        obtain ⟨pl, m, h1, h2, h3⟩ := ih hf h0
        simp only [STy.size] at hc
        obtain ⟨pl', m', g1, g2, g3⟩ := opens_fields BL ih hfs (xs := xs) (by simpa using hl) (fun i f' hf' => by simpa using H (i + 1) f' (by simpa using hf')) (by omega)
        refine ⟨pl ++ pl', m + m', .cons a b pl pl' m m' h1 g1, ?_, ?_⟩
        · have := BL.cons x.1 (xs.map (·.1))
          simp only [List.map_cons]
          omega
        · have e : (cs.drop o).take (STy.cons a b).size = (cs.drop o).take a.size ++ (cs.drop (o + a.size)).take b.size := by
            simp only [STy.size]
            rw [List.take_add, List.drop_drop]
          rw [e]
          rw [ho, hsz] at h3
          exact h3.append g3

theorem open_ok (BL : BulkLaw B BA) : ∀ (fuel : Nat),
    (∀ {t : TypeId} {cs : List Value} {d : DataW H} {ps : List MemPlace} {sp : Nat → Bool} {held : Bool} {s : STy}, OfTy P t s → DataW.trod enc P W 0 sp held fuel t cs = some (d, ps) → Opens W s cs (B d)) := by
  intro fuel
  induction fuel with
  | zero => intro t cs d ps sp held s hs h; simp [DataW.trod] at h
  | succ fuel ih =>
    intro t cs d ps sp held s hs h
    cases hs with
    | int _ k hu =>
      obtain ⟨n, rfl, hx, hw⟩ := DataW.trod_int hu h
      injection hx with h1 h2
      subst h1
      simp only [Lit.wf, Bool.and_eq_true, decide_eq_true_eq] at hw
      exact ⟨_, 1, .int _ _ hw.1 hw.2, BL.one _, .cons _ _ _ _ (.i _ _) .nil⟩
    | bool _ hu =>
      obtain ⟨b, rfl, hx⟩ := DataW.trod_bool hu h
      injection hx with h1 h2
      subst h1
      exact ⟨_, 1, .bool _, BL.one _, .cons _ _ _ _ (.b _) .nil⟩
    | str _ hu =>
      obtain ⟨s, rfl, hx, hw⟩ := DataW.trod_string hu h
      injection hx with h1 h2
      subst h1
      refine ⟨_, _, .str s, Nat.le_trans ?_ (BL.str _), .cons _ _ _ _ (.t _) .nil⟩
      rw [Array.length_toList]; exact Nat.le_refl _
    | sl _ e s' hu he hsz hpos =>
      rcases DataW.trod_slice hu h with ⟨rfl, hx⟩ | ⟨a, len, cap, elems, rest, n, hn, rfl, hx, hb, hle, hcap, hlen, hel, _⟩
      · injection hx with h1 h2
        subst h1
        exact ⟨_, 1, .sl s' [] 0 (.nil s'), BL.one _, .cons _ _ _ _ (.s0 none 0 _) .nil⟩
      · injection hx with h1 h2
        injection hn with hn
        subst hn
        subst h1
        rcases Nat.eq_zero_or_pos len with h0 | h0
        · subst h0
          exact ⟨_, 1, .sl s' [] 0 (.nil s'), BL.one _, .cons _ _ _ _ (.s0 (some a) cap _) .nil⟩
        · -- the block
          have hcells : ∀ (i : Nat) (x : DataW H × List MemPlace), elems[i]? = some x → ∃ cs', W.cells? 0 (a.add (i * P.cellsOf e)) (P.cellsOf e) = some cs' ∧ DataW.trod enc P W 0 sp held fuel e cs' = some x := fun i x hx => by
            have hi : i < len := by rw [← hlen]; exact (List.getElem?_eq_some_iff.1 hx).1
            have := hel i hi
            rw [hx] at this
            exact some_bind this
          have hfirst : ∃ c elem fr, W.heap[a.block]? = some (.cells c elem fr) ∧ a.spot = none := by
            obtain ⟨cs', h3, _⟩ := hcells 0 _ (List.getElem?_eq_getElem (by omega))
            obtain ⟨_, h4, h5⟩ := World.cells?_some h3
            have h6 := h5 0 (by rw [hsz]; exact hpos)
            rw [List.getElem?_eq_getElem (by omega)] at h6
            have e0 : (a.add (0 * P.cellsOf e)).add 0 = a := by simp [Addr.add]
            rw [e0] at h6
            unfold World.cell? at h6
            split at h6
            · rename_i c elem fr hh
              split at h6
              · simp at h6
              · rename_i hspot
                refine ⟨c, elem, fr, hh, ?_⟩
                cases hq : a.spot with
                | none => rfl
                | some z => rw [hq] at hspot; simp at hspot
            · simp at h6
          obtain ⟨c, elem, fr, hh, hspot⟩ := hfirst
          obtain ⟨blk, off, spot⟩ := a
          simp only at hspot hh
          subst hspot
          have hlt : blk < W.heap.size := (Array.getElem?_eq_some_iff.1 hh).1
          obtain ⟨rows, m, g1, g2, g3, g4⟩ := opens_rows (e := e) (s := s') (off := off) hh hlt len 0 (elems.map (·.1)) (by simpa using hlen) (fun j d' hd => by
            rw [List.getElem?_map] at hd
            obtain ⟨x, hx, rfl⟩ := some_map hd
            obtain ⟨cs', h3, h4⟩ := hcells j x hx
            obtain ⟨_, h5, h6⟩ := World.cells?_some h3
            refine ⟨cs', fun q v hv => ?_, ih he h4⟩
            have hq : q < P.cellsOf e := by rw [← h5]; exact (List.getElem?_eq_some_iff.1 hv).1
            have h7 := h6 q hq
            rw [add_none, add_none, cell_none hh, hv] at h7
            rw [Nat.zero_add, ← hsz]
            exact h7) BL
          refine ⟨_, m + 1, .sl s' rows m g1, ?_, .cons _ _ _ _ (.s blk off len cap _ c elem fr rows (.inr ⟨rfl, hlt⟩) hh g3.symm hle (by rw [Nat.zero_mul, Nat.add_zero] at g4; exact g4)) .nil⟩
          have := BL.sl (elems.map (·.1)) (rest.map (·.1))
          omega
    | st _ fs _ hu hfs hsz =>
      obtain ⟨xs, n, hn, hx, hl, hlen, hf⟩ := DataW.trod_struct hu h
      injection hx with h1 h2
      injection hn with hn
      subst hn
      subst h1
      obtain ⟨pl, m, g1, g2, g3⟩ := opens_fields BL (n := fuel) (cs := cs) (fun {t cs d ps s} hs h => ih hs h) hfs (xs := xs) (by simpa using hlen) (fun i f hi => hf i f (by simpa using hi)) (by omega)
      refine ⟨pl, m, g1, Nat.le_trans g2 (BL.agg _), ?_⟩
      have : (cs.drop 0).take s.size = cs := by rw [List.drop_zero, ← hsz, ← hl, List.take_length]
      rw [this] at g3
      exact g3

end
end Go.Proofs.Ytlbigobmhglppaa.R
