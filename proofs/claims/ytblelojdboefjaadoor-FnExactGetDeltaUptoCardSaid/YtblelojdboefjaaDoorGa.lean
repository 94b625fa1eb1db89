/- What both programs read of bytes as a difference. -/
import Derived.Test.YtblelojdboefjaaDoorCf0
import Derived.Test.YtblelojdboefjaaDoorT
set_option maxRecDepth 100000
set_option linter.unusedVariables false
set_option linter.unusedSimpArgs false
namespace Go.Proofs.YtblelojdboefjaaDoor.R
open Go

abbrev RSt := Nat × Bool
/-- Some rounds; some rounds, as long as nothing is wrong. -/
def rep {α : Type} (f : RSt → α × RSt) : Nat → RSt → List α × RSt
  | 0, s => ([], s)
  | k + 1, s => ((rep f k s).1 ++ [(f (rep f k s).2).1], (f (rep f k s).2).2)
def repB {α : Type} (f : RSt → α × RSt) : Nat → RSt → List α × RSt
  | 0, s => ([], s)
  | k + 1, s => if (repB f k s).2.2 = true then repB f k s else ((repB f k s).1 ++ [(f (repB f k s).2).1], (f (repB f k s).2).2)
theorem rep_len {α : Type} {f : RSt → α × RSt} : ∀ {k s}, (rep f k s).1.length = k
  | 0, s => rfl
  | k + 1, s => by simp only [rep, List.length_append, rep_len, List.length_cons, List.length_nil]
theorem repB_len {α : Type} {f : RSt → α × RSt} : ∀ {k s}, (repB f k s).1.length ≤ k ∧ ((repB f k s).2.2 = false → (repB f k s).1.length = k)
  | 0, s => ⟨Nat.le_refl _, fun _ => rfl⟩
  | k + 1, s => by
    have h := repB_len (f := f) (k := k) (s := s)
    simp only [repB]
    split
    · rename_i e; exact ⟨Nat.le_succ_of_le h.1, fun h2 => by rw [e] at h2; cases h2⟩
    · rename_i e
      have e' : (repB f k s).2.2 = false := by simpa using e
      simp only [List.length_append, h.2 e', List.length_cons, List.length_nil]
      exact ⟨Nat.le_refl _, fun _ => trivial⟩
section
variable (x : List UInt8)
/-- The first program's readings: a count, a text, an attribute, attributes, an entry. -/
def rC (s : RSt) : Nat × RSt := if ((rN x s).1 : Int) > (x.length : Int) - ((rN x s).2.1 : Int) then (0, ((rN x s).2.1, false)) else rN x s
def rS (s : RSt) : ByteArray × RSt := (⟨⟨(rT x s).1⟩⟩, (rT x s).2)
def rA1 (s : RSt) : TAttr × RSt := (⟨(rS x s).1, (rS x (rS x s).2).1⟩, (rS x (rS x s).2).2)
def rA (s : RSt) : List TAttr × RSt := rep (rA1 x) (rC x s).1 (rC x s).2
def rG (s : RSt) : List ByteArray × RSt := rep (rS x) (rC x s).1 (rC x s).2
def rE (s : RSt) : TEntry × RSt :=
  let a := rS x s; let b := rN x a.2; let c := rT x b.2; let d := rA x c.2; let e := rS x d.2
  (⟨a.1, (b.1 : Int), c.1, d.1, e.1⟩, e.2)
def rF (s : RSt) : List TEntry × RSt := rep (rE x) (rC x s).1 (rC x s).2
/-- The other's. -/
def sS (s : RSt) : ByteArray × RSt := (⟨⟨(sT x s).1⟩⟩, (sT x s).2)
def sA1 (s : RSt) : TAttr × RSt := (⟨(sS x s).1, (sS x (sS x s).2).1⟩, (sS x (sS x s).2).2)
def sA (s : RSt) : List TAttr × RSt :=
  let c := sN x s; let r := repB (sA1 x) (min c.1 5) c.2
  (r.1, (r.2.1, r.2.2 || !decide (c.1 = r.1.length)))
def sG (s : RSt) : Nat × List ByteArray × RSt := ((sN x s).1, repB (sS x) (min (sN x s).1 201) (sN x s).2)
def sE (s : RSt) : TEntry × RSt :=
  let a := sS x s; let b := sN x a.2; let c := sT x b.2; let d := sA x c.2; let e := sS x d.2
  (⟨a.1, (b.1 : Int), c.1, d.1, e.1⟩, e.2)
def sF (s : RSt) : Nat × List TEntry × RSt := ((sN x s).1, repB (sE x) (min (sN x s).1 201) (sN x s).2)
end
/-- Two readings that go side by side: as one, or both lost. -/
def Par {α : Type} (P Q : α → Prop) (a b : α × RSt) : Prop := (a.1 = b.1 ∧ Lk a.2 b.2) ∨ ((a.2.2 = false ∨ P a.1) ∧ (b.2.2 = true ∨ Q b.1))
/-- What is lost stays so; what is read takes a byte at least. -/
structure RdI {α : Type} (x : List UInt8) (f : RSt → α × RSt) : Prop where
  no : ∀ s, s.2 = false → (f s).2.2 = false
  le : ∀ s, s.1 ≤ x.length → (f s).2.1 ≤ x.length
structure RdS {α : Type} (x : List UInt8) (g : RSt → α × RSt) : Prop where
  no : ∀ s, s.2 = true → (g s).2.2 = true
  le : ∀ s, s.1 ≤ x.length → (g s).2.1 ≤ x.length
  up : ∀ s, (g s).2.2 = false → s.1 < (g s).2.1
section
variable {x : List UInt8}
theorem rd_N : RdI x (rN x) := ⟨fun _ h => rN_no h, fun _ h => rN_le h⟩
theorem rd_T : RdI x (rT x) := ⟨fun _ h => rT_no h, fun _ h => rT_le h⟩
theorem rd_S : RdI x (rS x) := ⟨fun _ h => rT_no h, fun _ h => rT_le h⟩
theorem sd_N : RdS x (sN x) := ⟨fun s h => by unfold sN; rw [if_pos h]; exact h, fun _ h => sN_le h, fun s h => by
  unfold sN at h ⊢
  split at h
  · rename_i e; rw [e] at h; cases h
  · rename_i e
    rw [if_neg e]
    split at h
    · rename_i v q e2; simp only [e2]; exact (getN_lt e2).2.2
    · cases h⟩
theorem sd_T : RdS x (sT x) := ⟨fun s h => by unfold sT; rw [if_pos h]; exact h, fun _ h => sT_le h, fun s h => by
  unfold sT at h ⊢
  split at h
  · rename_i e; rw [e] at h; cases h
  · rename_i e
    rw [if_neg e]
    split at h
    · rename_i v q e2; simp only [e2]; exact (getT_lt e2).2.1
    · cases h⟩
theorem sd_S : RdS x (sS x) := ⟨sd_T.no, sd_T.le, sd_T.up⟩
theorem rd_C : RdI x (rC x) := ⟨fun s h => by
  unfold rC; split
  · rfl
  · exact rN_no h, fun s h => by
  unfold rC; split
  · exact rN_le h
  · exact rN_le h⟩
theorem rd_rep {α : Type} {f : RSt → α × RSt} (h : RdI x f) (k : Nat) : RdI x (rep f k) := by
  induction k with
  | zero => exact ⟨fun _ h => h, fun _ h => h⟩
  | succ k ih => exact ⟨fun s hs => h.no _ (ih.no s hs), fun s hs => h.le _ (ih.le s hs)⟩
theorem repB_no {α : Type} {g : RSt → α × RSt} {s : RSt} (h : s.2 = true) : ∀ {k}, repB g k s = ([], s)
  | 0 => rfl
  | k + 1 => by simp only [repB, repB_no h (k := k), h, if_true]
theorem repB_up {α : Type} {g : RSt → α × RSt} (h : RdS x g) {s : RSt} (hs : s.1 ≤ x.length) : ∀ {k}, (repB g k s).2.1 ≤ x.length ∧ ((repB g k s).2.2 = false → s.1 + k ≤ (repB g k s).2.1)
  | 0 => ⟨hs, fun _ => Nat.le_refl _⟩
  | k + 1 => by
    have ih := repB_up h hs (k := k)
    simp only [repB]
    split
    · rename_i e; exact ⟨ih.1, fun h2 => by rw [e] at h2; cases h2⟩
    · rename_i e
      have e' : (repB g k s).2.2 = false := by simpa using e
      refine ⟨h.le _ ih.1, fun h2 => ?_⟩
      have h3 : (repB g k s).2.1 < (g (repB g k s).2).2.1 := h.up _ h2
      have h4 := ih.2 e'
      show s.1 + (k + 1) ≤ (g (repB g k s).2).2.1
      omega
theorem Lk.bad {s t : RSt} (h : Lk s t) : s.2 = false ↔ t.2 = true := by
  obtain ⟨a, ok⟩ := s
  obtain ⟨b, bad⟩ := t
  have := h.1
  simp only at this
  subst this
  cases bad <;> simp
/-- Rounds of both. -/
theorem par_rep {α : Type} {f g : RSt → α × RSt} {P Q : α → Prop} (hf : RdI x f) (hp : ∀ s t, Lk s t → s.1 ≤ x.length → Par P Q (f s) (g t)) {s t : RSt} (h : Lk s t) (hs : s.1 ≤ x.length) : ∀ k,
    ((rep f k s).1 = (repB g k t).1 ∧ Lk (rep f k s).2 (repB g k t).2) ∨ (((rep f k s).2.2 = false ∨ ∃ a ∈ (rep f k s).1, P a) ∧ ((repB g k t).2.2 = true ∨ ∃ a ∈ (repB g k t).1, Q a))
  | 0 => .inl ⟨rfl, h⟩
  | k + 1 => by
    simp only [rep, repB]
    rcases par_rep hf hp h hs k with ⟨h1, h2⟩ | ⟨h1, h2⟩
    · by_cases hb : (repB g k t).2.2 = true
      · rw [if_pos hb]
        exact .inr ⟨.inl (hf.no _ (h2.bad.2 hb)), .inl hb⟩
      · rw [if_neg hb]
        rcases hp _ _ h2 ((rd_rep hf k).le s hs) with ⟨h3, h4⟩ | ⟨h3, h4⟩
        · exact .inl ⟨by simp only [h1, h3], h4⟩
        · exact .inr ⟨h3.imp id fun h => ⟨_, by simp, h⟩, h4.imp id fun h => ⟨_, by simp, h⟩⟩
    · refine .inr ⟨h1.imp (hf.no _) fun ⟨a, ha, h⟩ => ⟨a, List.mem_append_left _ ha, h⟩, ?_⟩
      split
      · exact h2
      · rename_i hb
        exact (h2.resolve_left hb).elim fun a ⟨ha, h⟩ => .inr ⟨a, List.mem_append_left _ ha, h⟩
theorem sd_A1 : RdS x (sA1 x) := ⟨fun s h => sd_S.no _ (sd_S.no s h), fun s h => sd_S.le _ (sd_S.le s h), fun s h => by
  have h1 : (sS x s).2.2 = false := by
    cases e : (sS x s).2.2 with
    | false => rfl
    | true => have := sd_S.no _ e (x := x); rw [show (sS x (sS x s).2).2.2 = (sA1 x s).2.2 from rfl, h] at this; cases this
  exact Nat.lt_trans (sd_S.up s h1) (sd_S.up _ h)⟩
theorem rd_A1 : RdI x (rA1 x) := ⟨fun s h => rd_S.no _ (rd_S.no s h), fun s h => rd_S.le _ (rd_S.le s h)⟩
theorem rd_A : RdI x (rA x) := ⟨fun s h => (rd_rep rd_A1 _).no _ (rd_C.no s h), fun s h => (rd_rep rd_A1 _).le _ (rd_C.le s h)⟩
theorem repB_bad {α : Type} {g : RSt → α × RSt} {s : RSt} {k : Nat} (h : s.2 = true) : (repB g k s).2.2 = true := by rw [repB_no h]; exact h
theorem sA_no {s : RSt} (h : s.2 = true) : (sA x s).2.2 = true := by
  simp only [sA]
  rw [repB_bad (sd_N.no s h)]
  rfl
theorem sA_le {s : RSt} (h : s.1 ≤ x.length) : (sA x s).2.1 ≤ x.length := (repB_up sd_A1 (sd_N.le s h)).1
theorem par_S {s t : RSt} (h : Lk s t) : (rS x s).1 = (sS x t).1 ∧ Lk (rS x s).2 (sS x t).2 := by
  have := h.text (b := x)
  simp only [rS, sS, this.1]
  exact ⟨trivial, this.2⟩
theorem par_A1 {s t : RSt} (h : Lk s t) : (rA1 x s).1 = (sA1 x t).1 ∧ Lk (rA1 x s).2 (sA1 x t).2 := by
  have h1 := par_S (x := x) h
  have h2 := par_S (x := x) h1.2
  simp only [rA1, sA1, h1.1, h2.1]
  exact ⟨trivial, h2.2⟩
/-- Counted readings: what both make of the count, and of the rounds. -/
theorem par_cnt {α : Type} {f g : RSt → α × RSt} {P Q : α → Prop} (hf : RdI x f) (hg : RdS x g) (hp : ∀ s t, Lk s t → s.1 ≤ x.length → Par P Q (f s) (g t)) {s t : RSt} (h : Lk s t) (hs : s.1 ≤ x.length) (c : Nat) :
    let l := rep f (rC x s).1 (rC x s).2; let r := repB g (min (sN x t).1 (c + 1)) (sN x t).2
    (l.1 = r.1 ∧ Lk l.2 r.2 ∧ (r.2.2 = false → (sN x t).1 = r.1.length)) ∨ ((l.2.2 = false ∨ c < l.1.length ∨ ∃ a ∈ l.1, P a) ∧ (r.2.2 = true ∨ (c < r.1.length ∧ r.1.length < (sN x t).1) ∨ ∃ a ∈ r.1, Q a)) := by
  intro l r
  have hN := h.num (b := x)
  have hle := sN_le (b := x) (s := t)
  by_cases ht : (sN x t).2.2 = true
  · have hs0 : (rN x s).2.2 = false := hN.2.bad.2 ht
    exact .inr ⟨.inl (by
      refine (rd_rep hf _).no _ ?_
      unfold rC; split
      · rfl
      · exact hs0), .inl (repB_bad ht)⟩
  · have hs1 : (rN x s).2.2 = true := by
      cases e : (rN x s).2.2 with
      | true => rfl
      | false => exact absurd (hN.2.bad.1 e) ht
    have hq : (rN x s).2.1 = (sN x t).2.1 := hN.2.2 hs1
    have hq2 : (rN x s).2.1 ≤ x.length := rN_le hs
    have hup := repB_up hg (s := (sN x t).2) (by rw [← hq]; exact hq2) (k := min (sN x t).1 (c + 1))
    have hlen := repB_len (f := g) (k := min (sN x t).1 (c + 1)) (s := (sN x t).2)
    by_cases hc : ((rN x s).1 : Int) > (x.length : Int) - ((rN x s).2.1 : Int)
    · have e0 : rC x s = (0, ((rN x s).2.1, false)) := by unfold rC; rw [if_pos hc]
      refine .inr ⟨.inl ((rd_rep hf _).no _ (by rw [e0])), ?_⟩
      by_cases hb : r.2.2 = true
      · exact .inl hb
      · have hb' : (repB g (min (sN x t).1 (c + 1)) (sN x t).2).2.2 = false := by simpa using hb
        have h1 := hup.2 hb'
        have h2 := hup.1
        have h3 := hlen.2 hb'
        have h4 := hN.1
        exact .inr (.inl ⟨by show c < (repB g (min (sN x t).1 (c + 1)) (sN x t).2).1.length; omega, by show (repB g (min (sN x t).1 (c + 1)) (sN x t).2).1.length < _; omega⟩)
    · have e0 : rC x s = rN x s := by unfold rC; rw [if_neg hc]
      by_cases hk : (sN x t).1 ≤ c + 1
      · have em : min (sN x t).1 (c + 1) = (rN x s).1 := by rw [hN.1]; omega
        have hpr := par_rep hf hp hN.2 hq2 (rN x s).1
        have el : l = rep f (rN x s).1 (rN x s).2 := by show rep f (rC x s).1 (rC x s).2 = _; rw [e0]
        have er : r = repB g (rN x s).1 (sN x t).2 := by show repB g (min (sN x t).1 (c + 1)) (sN x t).2 = _; rw [em]
        rw [el, er]
        rcases hpr with ⟨h1, h2⟩ | ⟨h1, h2⟩
        · exact .inl ⟨h1, h2, fun hb => by rw [repB_len.2 hb, hN.1]⟩
        · exact .inr ⟨h1.imp id .inr, h2.imp id .inr⟩
      · refine .inr ⟨.inr (.inl ?_), ?_⟩
        · show c < (rep f (rC x s).1 (rC x s).2).1.length
          rw [rep_len, e0, ← hN.1]; omega
        · by_cases hb : r.2.2 = true
          · exact .inl hb
          · have hb' : (repB g (min (sN x t).1 (c + 1)) (sN x t).2).2.2 = false := by simpa using hb
            have h3 := hlen.2 hb'
            exact .inr (.inl ⟨by show c < (repB g (min (sN x t).1 (c + 1)) (sN x t).2).1.length; omega, by show (repB g (min (sN x t).1 (c + 1)) (sN x t).2).1.length < _; omega⟩)
def noP {α : Type} (_ : α) : Prop := False
theorem par_A {s t : RSt} (h : Lk s t) (hs : s.1 ≤ x.length) : ((rA x s).1 = (sA x t).1 ∧ Lk (rA x s).2 (sA x t).2) ∨ (((rA x s).2.2 = false ∨ 4 < (rA x s).1.length) ∧ (sA x t).2.2 = true) := by
  have H := par_cnt (x := x) rd_A1 sd_A1 (P := noP) (Q := noP) (fun s t h _ => .inl (par_A1 h)) h hs 4
  simp only at H
  show ((rep (rA1 x) (rC x s).1 (rC x s).2).1 = _ ∧ _) ∨ _
  simp only [sA, rA]
  rcases H with ⟨h1, h2, h3⟩ | ⟨h1, h2⟩
  · by_cases hb : (repB (sA1 x) (min (sN x t).1 (4 + 1)) (sN x t).2).2.2 = true
    · refine .inl ⟨h1, ?_⟩
      rw [hb, Bool.true_or]
      have := h2.1
      rw [hb] at this
      exact ⟨this, fun hh => by rw [this] at hh; cases hh⟩
    · have hb' : (repB (sA1 x) (min (sN x t).1 (4 + 1)) (sN x t).2).2.2 = false := by simpa using hb
      refine .inl ⟨h1, ?_⟩
      have e3 := h3 hb'
      have e4 : (!decide ((sN x t).1 = (repB (sA1 x) (min (sN x t).1 5) (sN x t).2).1.length)) = false := by rw [← e3]; simp
      rw [e4, Bool.or_false]
      exact h2
  · refine .inr ⟨h1.imp id fun h => h.resolve_right fun ⟨a, _, h⟩ => h, ?_⟩
    rcases h2 with h2 | ⟨h2, h3⟩ | ⟨a, _, h⟩
    · rw [h2, Bool.true_or]
    · have e4 : (!decide ((sN x t).1 = (repB (sA1 x) (min (sN x t).1 5) (sN x t).2).1.length)) = true := by
        rw [Bool.not_eq_true', decide_eq_false_iff_not]
        intro e
        exact Nat.lt_irrefl _ (by rw [← e] at h3; exact h3)
      rw [e4, Bool.or_true]
    · exact h.elim
end
end Go.Proofs.YtblelojdboefjaaDoor.R
