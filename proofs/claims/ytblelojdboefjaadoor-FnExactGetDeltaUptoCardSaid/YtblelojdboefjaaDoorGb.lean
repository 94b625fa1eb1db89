/- A difference read: both programs read the same. -/
import Derived.Test.YtblelojdboefjaaDoorGa
import Derived.Test.YtblelojdboefjaaDoorYg
set_option maxRecDepth 100000
set_option linter.unusedVariables false
set_option linter.unusedSimpArgs false
namespace Go.Proofs.YtblelojdboefjaaDoor.R
open Go
theorem attrsB_4 {l : List TAttr} (h : attrsB l = true) : l.length ≤ 4 := by
  unfold attrsB at h
  simp only [Bool.and_eq_true, decide_eq_true_eq] at h
  omega
theorem allB_at {n : Nat} {f : Nat → Bool} (h : allB n f = true) {j : Nat} (hj : j < n) : f j = true := by
  cases e : f j with
  | true => rfl
  | false => rw [allB_bad hj e] at h; exact absurd h (by decide)
theorem deltaB_s {d : TDelta} (h : deltaB d = true) : d.Attrs.length ≤ 4 ∧ d.Gone.length ≤ 200 ∧ d.Fresh.length ≤ 200 ∧ ∀ e ∈ d.Fresh, e.Attrs.length ≤ 4 := by
  unfold deltaB at h
  simp only [Bool.and_eq_true, Bool.not_eq_true', decide_eq_false_iff_not] at h
  obtain ⟨⟨⟨⟨⟨h1, h2⟩, h3⟩, h4⟩, h5⟩, h6⟩ := h
  refine ⟨attrsB_4 h1, by omega, by omega, fun e he => ?_⟩
  obtain ⟨j, hj, rfl⟩ := List.getElem_of_mem he
  have := allB_at h5 hj
  rw [freshAt_s (List.getElem?_eq_getElem hj)] at this
  unfold entryB at this
  simp only [Bool.and_eq_true] at this
  exact attrsB_4 this.1.1.1.2
section
variable {x : List UInt8}
def fatE (e : TEntry) : Prop := 4 < e.Attrs.length
theorem sA_up {s : RSt} (h : (sA x s).2.2 = false) : s.1 < (sA x s).2.1 := by
  simp only [sA, Bool.or_eq_false_iff] at h ⊢
  have hN : (sN x s).2.2 = false := by
    cases e : (sN x s).2.2 with
    | false => rfl
    | true => rw [repB_bad e] at h; cases h.1
  have h1 := sd_N.up s hN
  have h2 : ∀ {k : Nat} {t : RSt}, (repB (sA1 x) k t).2.2 = false → t.1 ≤ (repB (sA1 x) k t).2.1 := by
    intro k t
    induction k with
    | zero => exact fun _ => Nat.le_refl _
    | succ k ih =>
      simp only [repB]
      split
      · rename_i e; intro h2; rw [e] at h2; cases h2
      · rename_i e
        intro h2
        have e' : (repB (sA1 x) k t).2.2 = false := by simpa using e
        have h3 := ih e'
        have h4 : (repB (sA1 x) k t).2.1 < (sA1 x (repB (sA1 x) k t).2).2.1 := sd_A1.up _ h2
        show t.1 ≤ (sA1 x (repB (sA1 x) k t).2).2.1
        omega
  exact Nat.lt_of_lt_of_le h1 (h2 h.1)
theorem sd_A : RdS x (sA x) := ⟨fun _ h => sA_no h, fun _ h => sA_le h, fun _ h => sA_up h⟩
theorem comp_no {α : Type} {g : RSt → α × RSt} (hg : RdS x g) {s : RSt} (h : (g s).2.2 = false) : s.2 = false := by
  cases e : s.2 with
  | false => rfl
  | true => rw [hg.no s e] at h; cases h
theorem rd_E : RdI x (rE x) := ⟨fun s h => rd_S.no _ (rd_A.no _ (rd_T.no _ (rd_N.no _ (rd_S.no s h)))), fun s h => rd_S.le _ (rd_A.le _ (rd_T.le _ (rd_N.le _ (rd_S.le s h))))⟩
theorem sd_E : RdS x (sE x) := ⟨fun s h => sd_S.no _ (sd_A.no _ (sd_T.no _ (sd_N.no _ (sd_S.no s h)))), fun s h => sd_S.le _ (sd_A.le _ (sd_T.le _ (sd_N.le _ (sd_S.le s h)))), fun s h => by
  have h5 : (sS x (sA x (sT x (sN x (sS x s).2).2).2).2).2.2 = false := h
  have h4 := comp_no sd_S h5
  have h3 := comp_no sd_A h4
  have h2 := comp_no sd_T h3
  have h1 := comp_no sd_N h2
  have := sd_S.up _ h1
  have := sd_N.up _ h2
  have := sd_T.up _ h3
  have := sd_A.up _ h4
  have := sd_S.up _ h5
  show s.1 < (sS x (sA x (sT x (sN x (sS x s).2).2).2).2).2.1
  omega⟩
theorem par_E {s t : RSt} (h : Lk s t) (hs : s.1 ≤ x.length) : Par fatE noP (rE x s) (sE x t) := by
  have h1 := par_S (x := x) h
  have h2 := h1.2.num (b := x)
  have h3 := h2.2.text (b := x)
  have hle := rd_T.le _ (rd_N.le _ (rd_S.le s hs)) (x := x)
  rcases par_A (x := x) h3.2 hle with ⟨h4, h5⟩ | ⟨h4, h5⟩
  · have h6 := par_S (x := x) h5
    refine .inl ⟨?_, h6.2⟩
    simp only [rE, sE]
    rw [h1.1, h2.1, h3.1, h4, h6.1]
  · exact .inr ⟨h4.imp (rd_S.no _) id, .inl (sd_S.no _ h5)⟩
end
/-- A whole reading of the first, of the other; what they are worth. -/
def rDel (x : List UInt8) (s : RSt) : TDelta × RSt :=
  let a := rA x s; let g := rG x a.2; let f := rF x g.2
  (⟨a.1, g.1, f.1⟩, f.2)
def sDel (x : List UInt8) (s : RSt) : TDelta × (Nat × Nat) × RSt :=
  let a := sA x s; let g := sG x a.2; let f := sF x g.2.2
  (⟨a.1, g.2.1, f.2.1⟩, (g.1, f.1), f.2.2)
def okI (x : List UInt8) (s : RSt) : Bool := rD x (rDel x s).2 && deltaB (rDel x s).1
def okS' (x : List UInt8) (s : RSt) : Bool := !(sDel x s).2.2.2 && decide ((sDel x s).2.2.1 = x.length) && decide ((sDel x s).2.1.1 = (sDel x s).1.Gone.length) && decide ((sDel x s).2.1.2 = (sDel x s).1.Fresh.length) && deltaB (sDel x s).1
theorem par_Del {x : List UInt8} {s t : RSt} (h : Lk s t) (hs : s.1 ≤ x.length) : okI x s = okS' x t ∧ (okI x s = true → (rDel x s).1 = (sDel x t).1) := by
  have key : ((rDel x s).1 = (sDel x t).1 ∧ Lk (rDel x s).2 (sDel x t).2.2 ∧ ((sDel x t).2.2.2 = false → (sDel x t).2.1.1 = (sDel x t).1.Gone.length ∧ (sDel x t).2.1.2 = (sDel x t).1.Fresh.length)) ∨ (okI x s = false ∧ okS' x t = false) := by
    have noI : ∀ {d : TDelta} {u : RSt}, (u.2 = false ∨ 4 < d.Attrs.length ∨ 200 < d.Gone.length ∨ 200 < d.Fresh.length ∨ ∃ e ∈ d.Fresh, fatE e) → (rD x u && deltaB d) = false := by
      intro d u h
      rcases h with h | h
      · simp only [rD, h, Bool.false_and]
      · cases e : deltaB d with
        | false => rw [Bool.and_false]
        | true =>
          obtain ⟨h1, h2, h3, h4⟩ := deltaB_s e
          rcases h with h | h | h | ⟨a, ha, h⟩
          · omega
          · omega
          · omega
          · exact absurd (h4 a ha) (Nat.not_le_of_lt h)
    have lostF : ∀ {s : RSt}, s.2 = false → (rF x s).2.2 = false := fun h => (rd_rep rd_E _).no _ (rd_C.no _ h)
    have lostG : ∀ {s : RSt}, s.2 = false → (rG x s).2.2 = false := fun h => (rd_rep rd_S _).no _ (rd_C.no _ h)
    have badF : ∀ {s : RSt}, s.2 = true → (sF x s).2.2.2 = true := fun h => repB_bad (sd_N.no _ h)
    have badG : ∀ {s : RSt}, s.2 = true → (sG x s).2.2.2 = true := fun h => repB_bad (sd_N.no _ h)
    rcases par_A (x := x) h hs with ⟨a1, a2⟩ | ⟨a1, a2⟩
    case inr =>
      refine .inr ⟨noI (a1.imp (fun h => lostF (lostG h)) .inl), ?_⟩
      have : (sDel x t).2.2.2 = true := badF (badG a2)
      simp only [okS', this, Bool.not_true, Bool.false_and]
    have hle := rd_A.le s hs (x := x)
    rcases par_cnt (x := x) rd_S sd_S (P := noP) (Q := noP) (fun s t h _ => .inl (par_S h)) a2 hle 200 with ⟨g1, g2, g3⟩ | ⟨g1, g2⟩
    case inr =>
      refine .inr ⟨noI (g1.elim (fun h => .inl (lostF h)) fun h => h.elim (fun h => .inr (.inr (.inl h))) fun ⟨_, _, h⟩ => h.elim), ?_⟩
      rcases g2 with g2 | ⟨g2, g3⟩ | ⟨_, _, g2⟩
      · have : (sDel x t).2.2.2 = true := badF g2
        simp only [okS', this, Bool.not_true, Bool.false_and]
      · have : decide ((sDel x t).2.1.1 = (sDel x t).1.Gone.length) = false := decide_eq_false fun e => Nat.lt_irrefl _ (Nat.lt_of_lt_of_eq g3 e)
        simp only [okS', this, Bool.and_false, Bool.false_and]
      · exact g2.elim
    have hle2 : (rG x (rA x s).2).2.1 ≤ x.length := (rd_rep rd_S _).le _ (rd_C.le _ hle)
    rcases par_cnt (x := x) rd_E sd_E (P := fatE) (Q := noP) (fun s t h hs => par_E h hs) g2 hle2 200 with ⟨f1, f2, f3⟩ | ⟨f1, f2⟩
    case inr =>
      refine .inr ⟨noI (f1.imp id fun h => .inr (.inr h)), ?_⟩
      rcases f2 with f2 | ⟨f2, f3⟩ | ⟨_, _, f2⟩
      · have : (sDel x t).2.2.2 = true := f2
        simp only [okS', this, Bool.not_true, Bool.false_and]
      · have : decide ((sDel x t).2.1.2 = (sDel x t).1.Fresh.length) = false := decide_eq_false fun e => Nat.lt_irrefl _ (Nat.lt_of_lt_of_eq f3 e)
        simp only [okS', this, Bool.and_false, Bool.false_and]
      · exact f2.elim
    refine .inl ⟨?_, f2, fun hb => ⟨g3 (by
      cases e : (repB (sS x) (min (sN x (sA x t).2).1 (200 + 1)) (sN x (sA x t).2).2).2.2 with
      | false => rfl
      | true => have := badF (s := (sG x (sA x t).2).2.2) e; rw [show (sF x (sG x (sA x t).2).2.2).2.2.2 = (sDel x t).2.2.2 from rfl, hb] at this; cases this), f3 hb⟩⟩
    show TDelta.mk _ _ _ = TDelta.mk _ _ _
    rw [a1]
    exact congr (congrArg _ g1) f1
  rcases key with ⟨h1, h2, h3⟩ | ⟨h1, h2⟩
  · refine ⟨?_, fun _ => h1⟩
    unfold okI okS'
    rw [h2.done, h1]
    cases hb : (sDel x t).2.2.2 with
    | true => simp only [Bool.not_true, Bool.false_and]
    | false =>
      obtain ⟨h4, h5⟩ := h3 hb
      rw [decide_eq_true h4, decide_eq_true h5, Bool.and_true, Bool.and_true]
  · exact ⟨by rw [h1, h2], fun h => by rw [h1] at h; cases h⟩
end Go.Proofs.YtblelojdboefjaaDoor.R
