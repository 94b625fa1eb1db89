/- Paths: the reference's way to split them. -/
import Derived.Test.YtblelojdboefjaaDoorYc
set_option maxRecDepth 100000
set_option linter.unusedVariables false
set_option linter.unusedSimpArgs false
namespace Go.Proofs.YtblelojdboefjaaDoor.R
open Go

attribute [go_sem] or_false false_or or_true true_or
theorem splitL_none : ∀ {a : List UInt8}, (∀ c ∈ a, c ≠ 47) → splitL a = [a]
  | [], _ => rfl
  | c :: a, h => by
    have hc : c ≠ 47 := h c (by simp)
    have ih := splitL_none (a := a) fun d hd => h d (by simp [hd])
    simp only [splitL, if_neg hc, ih]
theorem splitL_at : ∀ {a b : List UInt8}, (∀ c ∈ a, c ≠ 47) → splitL (a ++ 47 :: b) = a :: splitL b
  | [], b, _ => by simp [splitL]
  | c :: a, b, h => by
    have hc : c ≠ 47 := h c (by simp)
    have ih := splitL_at (a := a) (b := b) fun d hd => h d (by simp [hd])
    simp only [List.cons_append, splitL, if_neg hc, ih]
theorem splitL_ne (l : List UInt8) : splitL l ≠ [] := fun h => by have := splitL_length l; rw [h] at this; simp at this
theorem pathL_slash {l : List UInt8} (h : l ≠ []) : pathL (47 :: l) = if (decide ((splitL l).length ≤ 30) && (splitL l).all nameL) = true then some (splitL l) else none := by
  unfold pathL
  rw [if_neg (by simpa using h)]
  have e : splitL (47 :: l) = [] :: splitL l := by simp [splitL]
  rw [e]
  cases hs : splitL l with
  | nil => exact absurd hs (splitL_ne l)
  | cons p ps => rfl
theorem pathL_other {l : List UInt8} (h : ∀ l', l ≠ 47 :: l') : pathL l = none := by
  unfold pathL
  rw [if_neg (h [])]
  cases l with
  | nil => rfl
  | cons c l =>
    have hc : c ≠ 47 := fun e => h l (by rw [e])
    simp only [splitL, if_neg hc]
    cases hs : splitL l with
    | nil => rfl
    | cons p ps => rfl
/-- The parts that are asked, one behind the other. -/
def partsOf : List UInt8 → List (List UInt8)
  | 47 :: l => splitL l
  | l => splitL l
theorem pathL_bad {l : List UInt8} {dn ps : List (List UInt8)} {p : List UInt8} (h47 : l ≠ [47]) (h : dn ++ p :: ps = partsOf l) (hb : nameL p = false ∨ dn.length = 30) : pathL l = none := by
  by_cases hs : ∃ l', l = 47 :: l'
  · obtain ⟨l', rfl⟩ := hs
    have hl : l' ≠ [] := fun e => h47 (by rw [e])
    rw [pathL_slash hl, if_neg]
    have e : splitL l' = dn ++ p :: ps := h.symm
    rw [e]
    rcases hb with hb | hb
    · simp [hb]
    · have : ¬ ((dn ++ p :: ps).length ≤ 30) := by rw [List.length_append, List.length_cons]; omega
      simp only [decide_eq_false this, Bool.false_and]; simp
  · exact pathL_other fun l' e => hs ⟨l', e⟩
/-- What the reference's SplitPath answers. -/
def splitS : Option (List (List UInt8)) → List CV
  | none => [.ow false 1 [], .sh false (.b false)]
  | some ps => [.ow false 1 (ps.map ppv), .sh false (.b true)]
theorem cur_succ {l : List UInt8} {f j : Nat} {c : UInt8} (hf : f ≤ j) (h : l[j]? = some c) : (l.take (j + 1)).drop f = (l.take j).drop f ++ [c] := by
  obtain ⟨hj, rfl⟩ := List.getElem?_eq_some_iff.1 h
  rw [List.take_succ_eq_append_getElem hj, List.drop_append_of_le_length (by simp; omega)]
theorem cur_rest {l : List UInt8} {f j : Nat} (hf : f ≤ j) (hj : j ≤ l.length) : l.drop f = (l.take j).drop f ++ l.drop j := by
  have e : l = l.take j ++ l.drop j := (List.take_append_drop j l).symm
  rw [show l.drop f = (l.take j ++ l.drop j).drop f from by rw [← e], List.drop_append_of_le_length (by simp; omega)]
theorem partsOf_one {l : List UInt8} (h : l[0]? = some 47) : partsOf l = splitL (l.drop 1) := by
  cases l with
  | nil => simp at h
  | cons c l => simp at h; subst h; rfl
theorem partsOf_zero {l : List UInt8} {c : UInt8} (h : l[0]? = some c) (hc : c ≠ 47) : partsOf l = splitL l := by
  cases l with
  | nil => rfl
  | cons d l =>
    simp at h; subst h
    unfold partsOf
    split
    · rename_i h; injection h with h; exact absurd h hc
    · rfl
theorem byte_ne {c : UInt8} : c ≠ 47 → ((c.toNat : Int) != 47) = true := fun h => by
  have : c.toNat ≠ 47 := fun e => h (UInt8.toNat.inj (by simpa using e))
  simp; omega

/-- Where the reference stands at place j. -/
structure SpS (l : List UInt8) (j f : Nat) (dn : List (List UInt8)) : Prop where
  le : j ≤ l.length + 1
  zero : j = 0 → f = 0 ∧ dn = []
  mid : 0 < j → j ≤ l.length → f ≤ j ∧ (∀ c ∈ (l.take j).drop f, c ≠ 47) ∧ dn ++ splitL (l.drop f) = partsOf l
  fin : j = l.length + 1 → (l = [] ∧ dn = []) ∨ (l ≠ [] ∧ dn = partsOf l)
  good : dn.all nameL = true ∧ dn.length ≤ 30 ∧ ∀ p ∈ dn, p.length ≤ l.length

section
variable {l : List UInt8} {j f : Nat} {dn : List (List UInt8)} {c : UInt8}
theorem SpS.part (h : SpS l j f dn) (h0 : 0 < j) (hj : j ≤ l.length) (he : j = l.length ∨ l[j]? = some 47) : ∃ rest, dn ++ (l.take j).drop f :: rest = partsOf l ∧ (j = l.length → rest = []) ∧ (l[j]? = some 47 → rest = splitL (l.drop (j + 1))) := by
  obtain ⟨hf, hn, hp⟩ := h.mid h0 hj
  rw [cur_rest hf hj] at hp
  rcases he with he | he
  · have e : l.drop j = [] := List.drop_of_length_le (by omega)
    rw [e, List.append_nil, splitL_none hn] at hp
    exact ⟨[], hp, fun _ => rfl, fun hx => by rw [he] at hx; simp at hx⟩
  · obtain ⟨hlt, hx⟩ := List.getElem?_eq_some_iff.1 he
    have e : l.drop j = 47 :: l.drop (j + 1) := by rw [List.drop_eq_getElem_cons hlt, hx]
    rw [e, splitL_at hn] at hp
    exact ⟨_, hp, fun h => by omega, fun _ => rfl⟩
theorem SpS.char (h : SpS l j f dn) (hlt : j < l.length) (hx : l[j]? = some c) (hc : c ≠ 47) : SpS l (j + 1) f dn := by
  refine ⟨by omega, fun e => by omega, fun _ _ => ?_, fun e => by omega, h.good⟩
  by_cases h0 : j = 0
  · subst h0
    obtain ⟨rfl, rfl⟩ := h.zero rfl
    refine ⟨Nat.zero_le _, ?_, by rw [List.drop_zero]; exact (partsOf_zero hx hc).symm⟩
    rw [cur_succ (Nat.le_refl _) hx]
    simpa using hc
  · obtain ⟨hf, hn, hp⟩ := h.mid (by omega) (by omega)
    refine ⟨by omega, ?_, hp⟩
    rw [cur_succ hf hx]
    intro d hd
    rcases List.mem_append.1 hd with hd | hd
    · exact hn d hd
    · simp at hd; subst hd; exact hc
theorem SpS.first (h : SpS l j f dn) (h0 : j = 0) (hx : l[j]? = some 47) : SpS l (j + 1) (j + 1) dn := by
  subst h0
  obtain ⟨_, rfl⟩ := h.zero rfl
  have hlt := (List.getElem?_eq_some_iff.1 hx).1
  exact ⟨by omega, fun e => by omega, fun _ _ => ⟨Nat.le_refl _, by simp, (partsOf_one hx).symm⟩, fun e => by omega, h.good⟩
theorem SpS.empty (h : SpS l j f dn) (h0 : j = 0) (hl : l.length = 0) : SpS l (j + 1) (j + 1) dn := by
  subst h0
  obtain ⟨_, rfl⟩ := h.zero rfl
  exact ⟨by omega, fun e => by omega, fun _ h => by omega, fun _ => .inl ⟨List.length_eq_zero_iff.1 hl, rfl⟩, h.good⟩
theorem SpS.next (h : SpS l j f dn) (h0 : 0 < j) (hj : j ≤ l.length) (he : j = l.length ∨ l[j]? = some 47) (hb : nameL ((l.take j).drop f) = true) (h30 : dn.length ≠ 30) : SpS l (j + 1) (j + 1) (dn ++ [(l.take j).drop f]) := by
  obtain ⟨rest, hp, h1, h2⟩ := h.part h0 hj he
  obtain ⟨g1, g2, g3⟩ := h.good
  refine ⟨by omega, fun e => by omega, fun _ hlt => ⟨Nat.le_refl _, by simp, ?_⟩, fun e => .inr ⟨fun hl => ?_, ?_⟩, ?_, ?_, fun p hp => ?_⟩
  · have : l[j]? = some 47 := by
      rcases he with he | he
      · omega
      · exact he
    rw [← hp, h2 this, List.append_assoc]; rfl
  · subst hl; simp at hj; omega
  · rw [← hp, h1 (by omega)]
  · rw [List.all_append, g1]; simp [hb]
  · simp only [List.length_append, List.length_cons, List.length_nil]; omega
  · rcases List.mem_append.1 hp with hp | hp
    · exact g3 p hp
    · simp at hp; subst hp; simp; omega
theorem SpS.bad (h : SpS l j f dn) (h47 : l ≠ [47]) (h0 : 0 < j) (hj : j ≤ l.length) (he : j = l.length ∨ l[j]? = some 47) (hb : nameL ((l.take j).drop f) = false ∨ dn.length = 30) : pathL l = none := by
  obtain ⟨rest, hp, _, _⟩ := h.part h0 hj he
  exact pathL_bad h47 hp hb
theorem SpS.done (h : SpS l j f dn) (h47 : l ≠ [47]) (hj : j = l.length + 1) : pathL l = if l[0]? = some 47 then some dn else none := by
  obtain ⟨g1, g2, g3⟩ := h.good
  split
  · rename_i hx
    rcases h.fin hj with ⟨rfl, _⟩ | ⟨_, hd⟩
    · simp at hx
    · cases l with
      | nil => simp at hx
      | cons c l =>
        simp at hx; subst hx
        have hl : l ≠ [] := fun e => h47 (by rw [e])
        have e : splitL l = dn := hd.symm
        rw [pathL_slash hl, e, if_pos (by rw [g1, Bool.and_true]; exact decide_eq_true g2)]
  · rename_i hx
    exact pathL_other fun l' e => hx (by rw [e]; rfl)
end

theorem splitSpec_ok (n : Nat) (hn : Big + 3 ≤ n) (l : List UInt8) (hl : l.length ≤ Bd) : pcall env n 76 [pvSV (.t ⟨⟨l⟩⟩)] [] = some ⟨.c (.tup [(false, 1), (false, 1)]) (splitS (pathL l)), []⟩ := by
  obtain ⟨m, rfl⟩ := ex_pred hn
  have hB := big_bd
  have hbd : Bd = 1048576 := rfl
  have hc := fun (p : List UInt8) (hp : p.length ≤ Bd) => nameSpec_ok m (deep hn (by decide)) ⟨⟨p⟩⟩ hp
  simp only [go_sem, nameB] at hc
  by_cases h47 : l = [47]
  · have hb : (l == [47]) = true := by simp [h47]
    rw [show pathL l = some [] from if_pos h47]
    refine wq_eq (wq_pcall (fn := Tryd.f76) rfl rfl rfl (Nat.le_of_ble_eq_true rfl) ?_)
    unfold Tryd.f76
    simp only [go_sem, Nat.reduceLT, Nat.reduceAdd, Nat.reduceSub, Nat.reduceEqDiff, Nat.reduceLeDiff, Int.reduceEq, Int.reduceBEq, Int.reduceBNe, Int.reduceNeg, UInt8.reduceToNat, hb, splitS]
  · have hb : (l == [47]) = false := by simpa using h47
    refine wq_eq (wq_pcall (fn := Tryd.f76) rfl rfl rfl (Nat.le_of_ble_eq_true rfl) ?_)
    unfold Tryd.f76
    simp only [go_sem, Nat.reduceLT, Nat.reduceAdd, Nat.reduceSub, Nat.reduceEqDiff, Nat.reduceLeDiff, Int.reduceEq, Int.reduceBEq, Int.reduceBNe, Int.reduceNeg, UInt8.reduceToNat, hb]
    refine wq_loop_at (fun k σ => ∃ (j f : Nat) (dn : List (List UInt8)), k = l.length + 1 - j ∧ SpS l j f dn ∧ σ = slots 59 [(0, .c .one [.sh false (.t ⟨⟨l⟩⟩)]), (4, .c .one [.ow false 1 (dn.map ppv)]), (5, .c .one [.sh false (.i .i64 (f : Nat))]), (6, .c .one [.sh false (.i .i64 (j : Nat))])]) (l.length + 1) (by omega) ?_ ?_
    · simp only [go_sem, Nat.reduceLT, Nat.reduceAdd, Nat.reduceSub, Nat.reduceEqDiff, Nat.reduceLeDiff, Int.reduceEq, Int.reduceBEq, Int.reduceBNe, Int.reduceNeg, UInt8.reduceToNat]
      exact ⟨0, 0, [], rfl, ⟨Nat.zero_le _, fun _ => ⟨rfl, rfl⟩, fun h => absurd h (Nat.lt_irrefl _), fun h => absurd h (by omega), ⟨rfl, Nat.zero_le _, by simp⟩⟩, rfl⟩
    · rintro k σ ⟨j, f, dn, rfl, hi, rfl⟩
      have hjl := hi.le
      obtain ⟨hg1, hg2, hg3⟩ := hi.good
      by_cases hle : j ≤ l.length
      · have h1 : ((j : Int) ≤ (l.length : Int)) := by omega
        have ws : IntKind.i64.wrap ((j : Int) + 1) = ((j + 1 : Nat) : Int) := by rw [wrap_in (by omega) (by omega)]; omega
        by_cases hlt : j < l.length
        · have h2 : ((j : Int) < (l.length : Int)) := by omega
          have hx : l[j]? = some l[j] := List.getElem?_eq_getElem hlt
          generalize l[j] = c at hx
          by_cases hc47 : c = 47
          · subst hc47
            by_cases hj0 : j = 0
            · have hgt : ¬ ((j : Int) > 0) := by omega
              simp only [go_sem, Nat.reduceLT, Nat.reduceAdd, Nat.reduceSub, Nat.reduceEqDiff, Nat.reduceLeDiff, Int.reduceEq, Int.reduceBEq, Int.reduceBNe, Int.reduceNeg, UInt8.reduceToNat, h1, h2, hx, ws, hgt]
              exact ⟨_, by omega, j + 1, j + 1, dn, rfl, hi.first hj0 hx, rfl⟩
            · skip
              have hgt : ((j : Int) > 0) := by omega
              have hcur : ((l.take j).drop f).length ≤ Bd := by simp; omega
              have hq := hc _ hcur
              have hf := (hi.mid (by omega) hle).1
              have w1 : ((0 : Int) ≤ (j : Int)) := by omega
              by_cases hb1 : nameL ((l.take j).drop f) = true
              · by_cases hb2 : dn.length = 30
                · have hb2' : ((dn.length : Int) == 30) = true := by simp [hb2]
                  rw [hi.bad h47 (by omega) hle (.inr hx) (.inr hb2)]
                  simp only [go_sem, Nat.reduceLT, Nat.reduceAdd, Nat.reduceSub, Nat.reduceEqDiff, Nat.reduceLeDiff, Int.reduceEq, Int.reduceBEq, Int.reduceBNe, Int.reduceNeg, UInt8.reduceToNat, h1, h2, hx, hgt, ws, hq, w1, hb1, hb2']
                  repeat (first | (refine bq_pos (by omega) ?_; simp only [go_sem, Nat.reduceLT, Nat.reduceAdd, Nat.reduceSub, Nat.reduceEqDiff, Nat.reduceLeDiff, Int.reduceEq, Int.reduceBEq, Int.reduceBNe, Int.reduceNeg, UInt8.reduceToNat, h1, h2, hx, hgt, ws, hq, w1, hb1, hb2']) | (refine bq_neg (by omega) ?_; simp only [go_sem, Nat.reduceLT, Nat.reduceAdd, Nat.reduceSub, Nat.reduceEqDiff, Nat.reduceLeDiff, Int.reduceEq, Int.reduceBEq, Int.reduceBNe, Int.reduceNeg, UInt8.reduceToNat, h1, h2, hx, hgt, ws, hq, w1, hb1, hb2']) | (refine bq_pos (by unfold LIM; omega) ?_; simp only [go_sem, Nat.reduceLT, Nat.reduceAdd, Nat.reduceSub, Nat.reduceEqDiff, Nat.reduceLeDiff, Int.reduceEq, Int.reduceBEq, Int.reduceBNe, Int.reduceNeg, UInt8.reduceToNat, h1, h2, hx, hgt, ws, hq, w1, hb1, hb2']))
                  simp only [splitS]
                · have hb2' : ((dn.length : Int) == 30) = false := by simp; omega
                  simp only [go_sem, Nat.reduceLT, Nat.reduceAdd, Nat.reduceSub, Nat.reduceEqDiff, Nat.reduceLeDiff, Int.reduceEq, Int.reduceBEq, Int.reduceBNe, Int.reduceNeg, UInt8.reduceToNat, h1, h2, hx, hgt, ws, hq, w1, hb1, hb2']
                  repeat (first | (refine bq_pos (by omega) ?_; simp only [go_sem, Nat.reduceLT, Nat.reduceAdd, Nat.reduceSub, Nat.reduceEqDiff, Nat.reduceLeDiff, Int.reduceEq, Int.reduceBEq, Int.reduceBNe, Int.reduceNeg, UInt8.reduceToNat, h1, h2, hx, hgt, ws, hq, w1, hb1, hb2']) | (refine bq_neg (by omega) ?_; simp only [go_sem, Nat.reduceLT, Nat.reduceAdd, Nat.reduceSub, Nat.reduceEqDiff, Nat.reduceLeDiff, Int.reduceEq, Int.reduceBEq, Int.reduceBNe, Int.reduceNeg, UInt8.reduceToNat, h1, h2, hx, hgt, ws, hq, w1, hb1, hb2']) | (refine bq_pos (by unfold LIM; omega) ?_; simp only [go_sem, Nat.reduceLT, Nat.reduceAdd, Nat.reduceSub, Nat.reduceEqDiff, Nat.reduceLeDiff, Int.reduceEq, Int.reduceBEq, Int.reduceBNe, Int.reduceNeg, UInt8.reduceToNat, h1, h2, hx, hgt, ws, hq, w1, hb1, hb2']))
                  exact ⟨_, by omega, j + 1, j + 1, dn ++ [(l.take j).drop f], rfl, hi.next (by omega) hle (.inr hx) hb1 hb2, by rw [List.map_append]; rfl⟩
              · have hb1' : nameL ((l.take j).drop f) = false := by simpa using hb1
                rw [hi.bad h47 (by omega) hle (.inr hx) (.inl hb1')]
                simp only [go_sem, Nat.reduceLT, Nat.reduceAdd, Nat.reduceSub, Nat.reduceEqDiff, Nat.reduceLeDiff, Int.reduceEq, Int.reduceBEq, Int.reduceBNe, Int.reduceNeg, UInt8.reduceToNat, h1, h2, hx, hgt, ws, hq, w1, hb1']
                repeat (first | (refine bq_pos (by omega) ?_; simp only [go_sem, Nat.reduceLT, Nat.reduceAdd, Nat.reduceSub, Nat.reduceEqDiff, Nat.reduceLeDiff, Int.reduceEq, Int.reduceBEq, Int.reduceBNe, Int.reduceNeg, UInt8.reduceToNat, h1, h2, hx, hgt, ws, hq, w1, hb1']) | (refine bq_neg (by omega) ?_; simp only [go_sem, Nat.reduceLT, Nat.reduceAdd, Nat.reduceSub, Nat.reduceEqDiff, Nat.reduceLeDiff, Int.reduceEq, Int.reduceBEq, Int.reduceBNe, Int.reduceNeg, UInt8.reduceToNat, h1, h2, hx, hgt, ws, hq, w1, hb1']) | (refine bq_pos (by unfold LIM; omega) ?_; simp only [go_sem, Nat.reduceLT, Nat.reduceAdd, Nat.reduceSub, Nat.reduceEqDiff, Nat.reduceLeDiff, Int.reduceEq, Int.reduceBEq, Int.reduceBNe, Int.reduceNeg, UInt8.reduceToNat, h1, h2, hx, hgt, ws, hq, w1, hb1']))
                simp only [splitS]
          · have hne := byte_ne hc47
            simp only [go_sem, Nat.reduceLT, Nat.reduceAdd, Nat.reduceSub, Nat.reduceEqDiff, Nat.reduceLeDiff, Int.reduceEq, Int.reduceBEq, Int.reduceBNe, Int.reduceNeg, UInt8.reduceToNat, h1, h2, hx, hne, ws]
            exact ⟨_, by omega, j + 1, f, dn, rfl, hi.char hlt hx hc47, rfl⟩
        · have h2 : ¬ ((j : Int) < (l.length : Int)) := by omega
          by_cases hj0 : j = 0
          · have hgt : ¬ ((j : Int) > 0) := by omega
            simp only [go_sem, Nat.reduceLT, Nat.reduceAdd, Nat.reduceSub, Nat.reduceEqDiff, Nat.reduceLeDiff, Int.reduceEq, Int.reduceBEq, Int.reduceBNe, Int.reduceNeg, UInt8.reduceToNat, h1, h2, ws, hgt]
            exact ⟨_, by omega, j + 1, j + 1, dn, rfl, hi.empty hj0 (by omega), rfl⟩
          · have hxx : True := trivial
            have hgt : ((j : Int) > 0) := by omega
            have hcur : ((l.take j).drop f).length ≤ Bd := by simp; omega
            have hq := hc _ hcur
            have hf := (hi.mid (by omega) hle).1
            have w1 : ((0 : Int) ≤ (j : Int)) := by omega
            by_cases hb1 : nameL ((l.take j).drop f) = true
            · by_cases hb2 : dn.length = 30
              · have hb2' : ((dn.length : Int) == 30) = true := by simp [hb2]
                rw [hi.bad h47 (by omega) hle (.inl (by omega)) (.inr hb2)]
                simp only [go_sem, Nat.reduceLT, Nat.reduceAdd, Nat.reduceSub, Nat.reduceEqDiff, Nat.reduceLeDiff, Int.reduceEq, Int.reduceBEq, Int.reduceBNe, Int.reduceNeg, UInt8.reduceToNat, h1, h2, hxx, hgt, ws, hq, w1, hb1, hb2']
                repeat (first | (refine bq_pos (by omega) ?_; simp only [go_sem, Nat.reduceLT, Nat.reduceAdd, Nat.reduceSub, Nat.reduceEqDiff, Nat.reduceLeDiff, Int.reduceEq, Int.reduceBEq, Int.reduceBNe, Int.reduceNeg, UInt8.reduceToNat, h1, h2, hxx, hgt, ws, hq, w1, hb1, hb2']) | (refine bq_neg (by omega) ?_; simp only [go_sem, Nat.reduceLT, Nat.reduceAdd, Nat.reduceSub, Nat.reduceEqDiff, Nat.reduceLeDiff, Int.reduceEq, Int.reduceBEq, Int.reduceBNe, Int.reduceNeg, UInt8.reduceToNat, h1, h2, hxx, hgt, ws, hq, w1, hb1, hb2']) | (refine bq_pos (by unfold LIM; omega) ?_; simp only [go_sem, Nat.reduceLT, Nat.reduceAdd, Nat.reduceSub, Nat.reduceEqDiff, Nat.reduceLeDiff, Int.reduceEq, Int.reduceBEq, Int.reduceBNe, Int.reduceNeg, UInt8.reduceToNat, h1, h2, hxx, hgt, ws, hq, w1, hb1, hb2']))
                simp only [splitS]
              · have hb2' : ((dn.length : Int) == 30) = false := by simp; omega
                simp only [go_sem, Nat.reduceLT, Nat.reduceAdd, Nat.reduceSub, Nat.reduceEqDiff, Nat.reduceLeDiff, Int.reduceEq, Int.reduceBEq, Int.reduceBNe, Int.reduceNeg, UInt8.reduceToNat, h1, h2, hxx, hgt, ws, hq, w1, hb1, hb2']
                repeat (first | (refine bq_pos (by omega) ?_; simp only [go_sem, Nat.reduceLT, Nat.reduceAdd, Nat.reduceSub, Nat.reduceEqDiff, Nat.reduceLeDiff, Int.reduceEq, Int.reduceBEq, Int.reduceBNe, Int.reduceNeg, UInt8.reduceToNat, h1, h2, hxx, hgt, ws, hq, w1, hb1, hb2']) | (refine bq_neg (by omega) ?_; simp only [go_sem, Nat.reduceLT, Nat.reduceAdd, Nat.reduceSub, Nat.reduceEqDiff, Nat.reduceLeDiff, Int.reduceEq, Int.reduceBEq, Int.reduceBNe, Int.reduceNeg, UInt8.reduceToNat, h1, h2, hxx, hgt, ws, hq, w1, hb1, hb2']) | (refine bq_pos (by unfold LIM; omega) ?_; simp only [go_sem, Nat.reduceLT, Nat.reduceAdd, Nat.reduceSub, Nat.reduceEqDiff, Nat.reduceLeDiff, Int.reduceEq, Int.reduceBEq, Int.reduceBNe, Int.reduceNeg, UInt8.reduceToNat, h1, h2, hxx, hgt, ws, hq, w1, hb1, hb2']))
                exact ⟨_, by omega, j + 1, j + 1, dn ++ [(l.take j).drop f], rfl, hi.next (by omega) hle (.inl (by omega)) hb1 hb2, by rw [List.map_append]; rfl⟩
            · have hb1' : nameL ((l.take j).drop f) = false := by simpa using hb1
              rw [hi.bad h47 (by omega) hle (.inl (by omega)) (.inl hb1')]
              simp only [go_sem, Nat.reduceLT, Nat.reduceAdd, Nat.reduceSub, Nat.reduceEqDiff, Nat.reduceLeDiff, Int.reduceEq, Int.reduceBEq, Int.reduceBNe, Int.reduceNeg, UInt8.reduceToNat, h1, h2, hxx, hgt, ws, hq, w1, hb1']
              repeat (first | (refine bq_pos (by omega) ?_; simp only [go_sem, Nat.reduceLT, Nat.reduceAdd, Nat.reduceSub, Nat.reduceEqDiff, Nat.reduceLeDiff, Int.reduceEq, Int.reduceBEq, Int.reduceBNe, Int.reduceNeg, UInt8.reduceToNat, h1, h2, hxx, hgt, ws, hq, w1, hb1']) | (refine bq_neg (by omega) ?_; simp only [go_sem, Nat.reduceLT, Nat.reduceAdd, Nat.reduceSub, Nat.reduceEqDiff, Nat.reduceLeDiff, Int.reduceEq, Int.reduceBEq, Int.reduceBNe, Int.reduceNeg, UInt8.reduceToNat, h1, h2, hxx, hgt, ws, hq, w1, hb1']) | (refine bq_pos (by unfold LIM; omega) ?_; simp only [go_sem, Nat.reduceLT, Nat.reduceAdd, Nat.reduceSub, Nat.reduceEqDiff, Nat.reduceLeDiff, Int.reduceEq, Int.reduceBEq, Int.reduceBNe, Int.reduceNeg, UInt8.reduceToNat, h1, h2, hxx, hgt, ws, hq, w1, hb1']))
              simp only [splitS]
      · have h1 : ¬ ((j : Int) ≤ (l.length : Int)) := by omega
        rw [hi.done h47 (by omega)]
        cases hx : l[0]? with
        | none =>
          have e : l = [] := by cases l with
            | nil => rfl
            | cons _ _ => simp at hx
          subst e
          have h1' : ¬ ((j : Int) ≤ 0) := by simpa using h1
          simp only [go_sem, Nat.reduceLT, Nat.reduceAdd, Nat.reduceSub, Nat.reduceEqDiff, Nat.reduceLeDiff, Int.reduceEq, Int.reduceBEq, Int.reduceBNe, Int.reduceNeg, UInt8.reduceToNat, h1', splitS]
        | some c =>
          have hl0 : ((l.length : Int) == 0) = false := by
            have := (List.getElem?_eq_some_iff.1 hx).1
            rw [beq_eq_false_iff_ne]; omega
          by_cases hc47 : c = 47
          · subst hc47
            simp only [go_sem, Nat.reduceLT, Nat.reduceAdd, Nat.reduceSub, Nat.reduceEqDiff, Nat.reduceLeDiff, Int.reduceEq, Int.reduceBEq, Int.reduceBNe, Int.reduceNeg, UInt8.reduceToNat, h1, hx, hl0, splitS, if_true]
          · have hne := byte_ne hc47
            rw [if_neg (by simpa using hc47)]
            simp only [go_sem, Nat.reduceLT, Nat.reduceAdd, Nat.reduceSub, Nat.reduceEqDiff, Nat.reduceLeDiff, Int.reduceEq, Int.reduceBEq, Int.reduceBNe, Int.reduceNeg, UInt8.reduceToNat, h1, hx, hl0, hne, splitS]
end Go.Proofs.YtblelojdboefjaaDoor.R
