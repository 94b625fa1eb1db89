/- Paths: the program's way to split them. -/
import Derived.Test.YtblelojdboefjaaDoorYb
set_option maxRecDepth 100000
set_option linter.unusedVariables false
set_option linter.unusedSimpArgs false
namespace Go.Proofs.YtblelojdboefjaaDoor.R
open Go

@[go_sem] theorem le_0_1 : ((0 : Int) ≤ 1) = True := by simp
@[go_sem] theorem toNat_1 : Int.toNat 1 = 1 := rfl
@[go_sem] theorem toNat_0 : Int.toNat 0 = 0 := rfl
attribute [go_sem] List.take_length

/-- Parts that a text has. -/
def okP (p : List UInt8) : Prop := p.length ≤ Bd
theorem split_ok (n : Nat) (hn : Big + 6 ≤ n) (l : List UInt8) (hl : l.length ≤ Bd) : pcall env n 81 [pvSV (.t ⟨⟨l⟩⟩), pvSV (.t ⟨⟨[47]⟩⟩)] [] = some ⟨.c .one [.sh false (.s 1 ((splitL l).map ppv))], []⟩ := by
  obtain ⟨m, rfl⟩ := ex_pred hn
  have hc := genSplit_ok m (deep hn (by decide)) l hl
  simp only [go_sem] at hc
  refine wq_eq (wq_pcall (fn := Tryd.f81) rfl rfl rfl (Nat.le_of_ble_eq_true rfl) ?_)
  unfold Tryd.f81
  simp only [go_sem, Nat.reduceLT, Nat.reduceAdd, Nat.reduceSub, Nat.reduceEqDiff, Nat.reduceLeDiff, Int.reduceEq, Int.reduceBEq, Int.reduceBNe, Int.reduceNeg, UInt8.reduceToNat, hc]
theorem splitL_le : ∀ (l : List UInt8) (p : List UInt8), p ∈ splitL l → p.length ≤ l.length
  | [], p, h => by simp [splitL] at h; subst h; simp
  | c :: l, p, h => by
    by_cases hc : c = 47
    · simp only [splitL, if_pos hc] at h
      rcases List.mem_cons.1 h with h | h
      · subst h; simp
      · have := splitL_le l p h; simp only [List.length_cons]; omega
    · simp only [splitL, if_neg hc] at h
      have ih := splitL_le l
      cases hs : splitL l with
      | nil => have := splitL_length l; rw [hs] at this; simp at this
      | cons q qs =>
        rw [hs] at h ih
        rcases List.mem_cons.1 h with h | h
        · subst h; have := ih q (by simp); simp only [List.length_cons]; omega
        · have := ih p (by simp [h]); simp only [List.length_cons]; omega

theorem notName_ok (n : Nat) (hn : Big + 2 ≤ n) (p : List UInt8) (hp : okP p) : pcall env n 85 [pvSV (.t ⟨⟨p⟩⟩)] [] = some ⟨pvSV (.b (!nameL p)), []⟩ := by
  obtain ⟨m, rfl⟩ := ex_pred hn
  have hc := nameImpl_ok m (deep hn (by decide)) ⟨⟨p⟩⟩ hp
  simp only [go_sem, nameB] at hc
  refine wq_eq (wq_pcall (fn := Tryd.f85) rfl rfl rfl (Nat.le_of_ble_eq_true rfl) ?_)
  unfold Tryd.f85
  simp only [go_sem, Nat.reduceLT, Nat.reduceAdd, Nat.reduceSub, Nat.reduceEqDiff, Nat.reduceLeDiff, Int.reduceEq, Int.reduceBEq, Int.reduceBNe, Int.reduceNeg, UInt8.reduceToNat, hc]

theorem indexName_ok (n : Nat) (hn : Big + 3 ≤ n) (l : List (List UInt8)) (ho : ∀ p ∈ l, okP p) (hl : l.length ≤ Bd) : ∃ v : Int, decide (v ≥ 0) = !(l.all nameL) ∧ pcall env n 89 [.c .one [.sh true (.s 1 (l.map ppv))], .fn 85 []] [] = some ⟨pvSV (.i .i64 v), []⟩ := by
  obtain ⟨m, rfl⟩ := ex_pred hn
  have hB := big_bd
  have hbd : Bd = 1048576 := rfl
  suffices h : @Wq _ (pcall env (m + 1) 89 [.c .one [.sh true (.s 1 (l.map ppv))], .fn 85 []] []) ⟨fun r => ∃ v : Int, decide (v ≥ 0) = !(l.all nameL) ∧ r = ⟨pvSV (.i .i64 v), []⟩⟩ by
    obtain ⟨r, h1, v, h2, h3⟩ := h; exact ⟨v, h2, by rw [h1, h3]⟩
  refine wq_pcall (fn := Tryd.f89) rfl rfl rfl (Nat.le_of_ble_eq_true rfl) ?_
  unfold Tryd.f89
  simp only [go_sem, Nat.reduceLT, Nat.reduceAdd, Nat.reduceSub, Nat.reduceEqDiff, Nat.reduceLeDiff, Int.reduceEq, Int.reduceBEq, Int.reduceBNe, Int.reduceNeg, UInt8.reduceToNat]
  refine wq_loop_at (fun k σ => ∃ j : Nat, j ≤ l.length ∧ k = l.length - j ∧ (∀ (i : Nat) (p : List UInt8), i < j → l[i]? = some p → nameL p = true) ∧ σ = slots 19 [(0, .c .one [.sh true (.s 1 (l.map ppv))]), (1, .fn 85 []), (7, .c .one [.sh false (.i .i64 (l.length : Nat))]), (8, .c .one [.sh false (.i .i64 (j : Nat))])]) l.length (by omega) ?_ ?_
  · simp only [go_sem, Nat.reduceLT, Nat.reduceAdd, Nat.reduceSub, Nat.reduceEqDiff, Nat.reduceLeDiff, Int.reduceEq, Int.reduceBEq, Int.reduceBNe, Int.reduceNeg, UInt8.reduceToNat]
    exact ⟨0, Nat.zero_le _, rfl, fun i c hi => absurd hi (Nat.not_lt_zero _), rfl⟩
  · rintro k σ ⟨j, hj, rfl, hp, rfl⟩
    by_cases hlt : j < l.length
    · have h1 : ((j : Int) < (l.length : Int)) := by omega
      have hx : l[j]? = some l[j] := List.getElem?_eq_getElem hlt
      have hok := ho _ (List.getElem_mem hlt)
      generalize l[j] = p at hx hok
      have hc := notName_ok m (deep hn (by decide)) p hok
      simp only [go_sem] at hc
      cases hb : nameL p
      · simp only [go_sem, Nat.reduceLT, Nat.reduceAdd, Nat.reduceSub, Nat.reduceEqDiff, Nat.reduceLeDiff, Int.reduceEq, Int.reduceBEq, Int.reduceBNe, Int.reduceNeg, UInt8.reduceToNat, h1, hx, hc, hb]
        refine ⟨_, ?_, rfl⟩
        have : l.all nameL = false := by rw [List.all_eq_false]; exact ⟨p, List.mem_of_getElem? hx, by simp [hb]⟩
        rw [this]; simp
      · simp only [go_sem, Nat.reduceLT, Nat.reduceAdd, Nat.reduceSub, Nat.reduceEqDiff, Nat.reduceLeDiff, Int.reduceEq, Int.reduceBEq, Int.reduceBNe, Int.reduceNeg, UInt8.reduceToNat, h1, hx, hc, hb, wrap_succ hlt (by omega)]
        refine ⟨_, by omega, j + 1, hlt, rfl, fun i q hi hq => ?_, rfl⟩
        rcases Nat.lt_succ_iff_lt_or_eq.1 hi with h | h
        · exact hp i q h hq
        · subst h; rw [hx] at hq; injection hq with hq; subst hq; exact hb
    · have h1 : ¬ ((j : Int) < (l.length : Int)) := by omega
      simp only [go_sem, Nat.reduceLT, Nat.reduceAdd, Nat.reduceSub, Nat.reduceEqDiff, Nat.reduceLeDiff, Int.reduceEq, Int.reduceBEq, Int.reduceBNe, Int.reduceNeg, UInt8.reduceToNat, h1]
      refine ⟨_, ?_, rfl⟩
      have : l.all nameL = true := by
        rw [List.all_eq_true]
        intro p hm
        obtain ⟨i, hi⟩ := List.getElem?_of_mem hm
        exact hp i p (by have := (List.getElem?_eq_some_iff.1 hi).1; omega) hi
      rw [this]; simp

theorem containsName_ok (n : Nat) (hn : Big + 4 ≤ n) (l : List (List UInt8)) (ho : ∀ p ∈ l, okP p) (hl : l.length ≤ Bd) : pcall env n 84 [.c .one [.sh true (.s 1 (l.map ppv))], .fn 85 []] [] = some ⟨pvSV (.b (!(l.all nameL))), []⟩ := by
  obtain ⟨m, rfl⟩ := ex_pred hn
  obtain ⟨v, hv, hc⟩ := indexName_ok m (deep hn (by decide)) l ho hl
  simp only [go_sem] at hc
  rw [← hv]
  refine wq_eq (wq_pcall (fn := Tryd.f84) rfl rfl rfl (Nat.le_of_ble_eq_true rfl) ?_)
  unfold Tryd.f84
  simp only [go_sem, Nat.reduceLT, Nat.reduceAdd, Nat.reduceSub, Nat.reduceEqDiff, Nat.reduceLeDiff, Int.reduceEq, Int.reduceBEq, Int.reduceBNe, Int.reduceNeg, UInt8.reduceToNat, hc]

theorem namesOk_ok (n : Nat) (hn : Big + 5 ≤ n) (l : List (List UInt8)) (ho : ∀ p ∈ l, okP p) (hl : l.length ≤ Bd) : pcall env n 82 [.c .one [.sh true (.s 1 (l.map ppv))]] [] = some ⟨pvSV (.b (decide (l.length ≤ 30) && l.all nameL)), []⟩ := by
  obtain ⟨m, rfl⟩ := ex_pred hn
  have hc := containsName_ok m (deep hn (by decide)) l ho hl
  simp only [go_sem] at hc
  refine wq_eq (wq_pcall (fn := Tryd.f82) rfl rfl rfl (Nat.le_of_ble_eq_true rfl) ?_)
  unfold Tryd.f82
  by_cases h : l.length ≤ 30
  · have h1 : ((l.length : Int) ≤ 30) := by omega
    simp only [go_sem, Nat.reduceLT, Nat.reduceAdd, Nat.reduceSub, Nat.reduceEqDiff, Nat.reduceLeDiff, Int.reduceEq, Int.reduceBEq, Int.reduceBNe, Int.reduceNeg, UInt8.reduceToNat, hc, h1, h]
  · have h1 : ¬ ((l.length : Int) ≤ 30) := by omega
    simp only [go_sem, Nat.reduceLT, Nat.reduceAdd, Nat.reduceSub, Nat.reduceEqDiff, Nat.reduceLeDiff, Int.reduceEq, Int.reduceBEq, Int.reduceBNe, Int.reduceNeg, UInt8.reduceToNat, hc, h1, h]

/-- The names of a path; none: it is not right. -/
def pathL (l : List UInt8) : Option (List (List UInt8)) :=
  if l = [47] then some [] else match splitL l with
    | [] :: p :: ps => if (decide ((p :: ps).length ≤ 30) && (p :: ps).all nameL) = true then some (p :: ps) else none
    | _ => none
/-- What the program's SplitPath answers. -/
def splitI : Option (List (List UInt8)) → List CV
  | none => [.ow false 1 [], .sh false (.b false)]
  | some [] => [.ow false 1 [], .sh false (.b true)]
  | some (p :: ps) => [.sh false (.s 1 ((p :: ps).map ppv)), .sh false (.b true)]

theorem splitImpl_ok (n : Nat) (hn : Big + 7 ≤ n) (l : List UInt8) (hl : l.length ≤ Bd) : pcall env n 78 [pvSV (.t ⟨⟨l⟩⟩)] [] = some ⟨.c (.tup [(false, 1), (false, 1)]) (splitI (pathL l)), []⟩ := by
  obtain ⟨m, rfl⟩ := ex_pred hn
  have hc := split_ok m (deep hn (by decide)) l hl
  have hlen := splitL_length l
  have hcl : l.count 47 ≤ l.length := List.count_le_length
  have hle := splitL_le l
  simp only [go_sem] at hc
  by_cases h47 : l = [47]
  · have hb : (l == [47]) = true := by simp [h47]
    rw [show pathL l = some [] from if_pos h47]
    refine wq_eq (wq_pcall (fn := Tryd.f78) rfl rfl rfl (Nat.le_of_ble_eq_true rfl) ?_)
    unfold Tryd.f78
    simp only [go_sem, Nat.reduceLT, Nat.reduceAdd, Nat.reduceSub, Nat.reduceEqDiff, Nat.reduceLeDiff, Int.reduceEq, Int.reduceBEq, Int.reduceBNe, Int.reduceNeg, UInt8.reduceToNat, hc, hb, splitI]
  · have hb : (l == [47]) = false := by simpa using h47
    cases hs : splitL l with
    | nil => rw [hs] at hlen; simp at hlen
    | cons p0 rest =>
      rw [hs] at hc hlen hle
      cases p0 with
      | cons c cs =>
        rw [show pathL l = none from by unfold pathL; rw [if_neg h47, hs]]
        refine wq_eq (wq_pcall (fn := Tryd.f78) rfl rfl rfl (Nat.le_of_ble_eq_true rfl) ?_)
        unfold Tryd.f78
        simp only [go_sem, Nat.reduceLT, Nat.reduceAdd, Nat.reduceSub, Nat.reduceEqDiff, Nat.reduceLeDiff, Int.reduceEq, Int.reduceBEq, Int.reduceBNe, Int.reduceNeg, UInt8.reduceToNat, hc, hb, splitI]
      | nil =>
        cases rest with
        | nil =>
          rw [show pathL l = none from by unfold pathL; rw [if_neg h47, hs]]
          refine wq_eq (wq_pcall (fn := Tryd.f78) rfl rfl rfl (Nat.le_of_ble_eq_true rfl) ?_)
          unfold Tryd.f78
          simp only [go_sem, Nat.reduceLT, Nat.reduceAdd, Nat.reduceSub, Nat.reduceEqDiff, Nat.reduceLeDiff, Int.reduceEq, Int.reduceBEq, Int.reduceBNe, Int.reduceNeg, UInt8.reduceToNat, hc, hb, splitI]
        | cons p ps =>
          have hn2 := namesOk_ok m (deep hn (by decide)) (p :: ps) (fun q hq => Nat.le_trans (hle q (by simp [hq])) hl) (by simp only [List.length_cons] at hlen ⊢; omega)
          have hp : pathL l = if (decide ((p :: ps).length ≤ 30) && (p :: ps).all nameL) = true then some (p :: ps) else none := by unfold pathL; rw [if_neg h47, hs]
          have hlt : ¬ (((ps.length + 1 + 1 : Nat) : Int) < 2) := by omega
          have hge : ((1 : Int) ≤ ((ps.length + 1 + 1 : Nat) : Int)) := by omega
          rw [hp]
          generalize (decide ((p :: ps).length ≤ 30) && (p :: ps).all nameL) = b at hn2 ⊢
          simp only [go_sem] at hn2 hc
          refine wq_eq (wq_pcall (fn := Tryd.f78) rfl rfl rfl (Nat.le_of_ble_eq_true rfl) ?_)
          unfold Tryd.f78
          cases b
          · simp only [go_sem, Nat.reduceLT, Nat.reduceAdd, Nat.reduceSub, Nat.reduceEqDiff, Nat.reduceLeDiff, Int.reduceEq, Int.reduceBEq, Int.reduceBNe, Int.reduceNeg, UInt8.reduceToNat, hc, hb, hn2, hlt, hge, splitI]
          · simp only [go_sem, Nat.reduceLT, Nat.reduceAdd, Nat.reduceSub, Nat.reduceEqDiff, Nat.reduceLeDiff, Int.reduceEq, Int.reduceBEq, Int.reduceBNe, Int.reduceNeg, UInt8.reduceToNat, hc, hb, hn2, hlt, hge, splitI]
end Go.Proofs.YtblelojdboefjaaDoor.R
