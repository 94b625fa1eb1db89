/- Attributes, and a directory's entries: what both programs ask of them. -/
import Derived.Test.YticgilhndadkiaaGreatDoorYd
set_option maxRecDepth 100000
set_option linter.unusedVariables false
set_option linter.unusedSimpArgs false
namespace Go.Proofs.YticgilhndadkiaaGreatDoor.R
open Go

/-- It holds at each place below n. -/
def allB (n : Nat) (p : Nat → Bool) : Bool := (List.range n).all p
theorem allB_bad {n i : Nat} {p : Nat → Bool} (hi : i < n) (h : p i = false) : allB n p = false := by
  unfold allB; rw [List.all_eq_false]; exact ⟨i, List.mem_range.2 hi, by simp [h]⟩
theorem allB_all {n : Nat} {p : Nat → Bool} (h : ∀ i, i < n → p i = true) : allB n p = true := by
  unfold allB; rw [List.all_eq_true]; exact fun i hi => h i (List.mem_range.1 hi)
theorem allB_and (n : Nat) (p q : Nat → Bool) : allB n (fun i => p i && q i) = (allB n p && allB n q) := by
  unfold allB
  induction List.range n with
  | nil => rfl
  | cons i l ih => simp only [List.all_cons, ih]; cases p i <;> cases q i <;> simp
/-- Is the text before the other one? -/
def lessB (x y : ByteArray) : Bool := Op.bytesLess x.toList y.toList
def inB (n a b : Int) : Bool := decide (n ≥ a) && decide (n ≤ b)
/-- Is an attribute right, behind the one before it? -/
def attrOne (prev : Option TAttr) (a : TAttr) : Bool := nameB a.Name && inB a.Val.size 1 16 && (match prev with
  | some y => lessB y.Name a.Name
  | none => true)
def attrAt (l : List TAttr) (i : Nat) : Bool := match l[i]? with
  | some a => attrOne (if i = 0 then none else l[i - 1]?) a
  | none => true
def attrsB (l : List TAttr) : Bool := allB l.length (attrAt l) && decide ((l.length : Int) ≤ 4)
theorem attrAt_0 {l : List TAttr} {j : Nat} {a : TAttr} (h : l[j]? = some a) (h0 : j = 0) : attrAt l j = (nameB a.Name && inB a.Val.size 1 16) := by
  simp only [attrAt, h, attrOne, if_pos h0, Bool.and_true]
theorem attrAt_s {l : List TAttr} {j : Nat} {a y : TAttr} (h : l[j]? = some a) (h0 : j ≠ 0) (hy : l[j - 1]? = some y) : attrAt l j = (nameB a.Name && inB a.Val.size 1 16 && lessB y.Name a.Name) := by
  simp only [attrAt, h, attrOne, if_neg h0, hy]
theorem attrAt_1 {l : List TAttr} {j : Nat} {a : TAttr} (h : l[j]? = some a) (hb : nameB a.Name = false) : attrAt l j = false := by
  simp only [attrAt, h, attrOne, hb, Bool.false_and]
theorem attrAt_2 {l : List TAttr} {j : Nat} {a : TAttr} (h : l[j]? = some a) (hb : inB a.Val.size 1 16 = false) : attrAt l j = false := by
  simp only [attrAt, h, attrOne, hb, Bool.and_false, Bool.false_and]

set_option maxHeartbeats 1000000 in
theorem attrsSpec_ok (n : Nat) (hn : Big + 3 ≤ n) (l : List TAttr) (ho : ∀ a ∈ l, a.ok) (hl : l.length ≤ Bd) : pcall env n 114 [.c .one [.sh true (.s 2 (l.map TAttr.pv))]] [] = some ⟨pvSV (.b (attrsB l)), []⟩ := by
  obtain ⟨m, rfl⟩ := ex_pred hn
  have hB := big_bd
  have hbd : Bd = 1048576 := rfl
  have hin := fun a b c => l1In_ok m (deep hn (by decide)) a b c
  simp only [go_sem] at hin
  refine wq_eq (wq_pcall (fn := Tryz.f114) rfl rfl rfl (Nat.le_of_ble_eq_true rfl) ?_)
  unfold Tryz.f114
  simp only [go_sem, Nat.reduceLT, Nat.reduceAdd, Nat.reduceSub, Nat.reduceEqDiff, Nat.reduceLeDiff, Int.reduceEq, Int.reduceBEq, Int.reduceBNe, Int.reduceNeg, UInt8.reduceToNat]
  refine wq_loop_at (fun k σ => ∃ j : Nat, j ≤ l.length ∧ k = l.length - j ∧ (∀ i, i < j → attrAt l i = true) ∧ σ = slots 48 [(0, .c .one [.sh true (.s 2 (l.map TAttr.pv))]), (3, .c .one [.sh false (.i .i64 (j : Nat))])]) l.length (by omega) ?_ ?_
  · simp only [go_sem, Nat.reduceLT, Nat.reduceAdd, Nat.reduceSub, Nat.reduceEqDiff, Nat.reduceLeDiff, Int.reduceEq, Int.reduceBEq, Int.reduceBNe, Int.reduceNeg, UInt8.reduceToNat]
    exact ⟨0, Nat.zero_le _, rfl, fun i hi => absurd hi (Nat.not_lt_zero _), rfl⟩
  · rintro k σ ⟨j, hj, rfl, hp, rfl⟩
    by_cases hlt : j < l.length
    · have h1 : ((j : Int) < (l.length : Int)) := by omega
      have hx : l[j]? = some l[j] := List.getElem?_eq_getElem hlt
      have hok := ho _ (List.getElem_mem hlt)
      generalize l[j] = a at hx hok
      have hc := nameSpec_ok m (deep hn (by decide)) a.Name hok.Name
      simp only [go_sem] at hc
      have step : attrAt l j = true → ∀ i, i < j + 1 → attrAt l i = true := fun e i hi => by
        rcases Nat.lt_succ_iff_lt_or_eq.1 hi with h | h
        · exact hp i h
        · subst h; exact e
      have bad : attrAt l j = false → attrsB l = false := fun e => by unfold attrsB; rw [allB_bad hlt e, Bool.false_and]
      cases b1 : nameB a.Name with
      | false =>
        rw [bad (attrAt_1 hx b1)]
        simp only [go_sem, Nat.reduceLT, Nat.reduceAdd, Nat.reduceSub, Nat.reduceEqDiff, Nat.reduceLeDiff, Int.reduceEq, Int.reduceBEq, Int.reduceBNe, Int.reduceNeg, UInt8.reduceToNat, h1, hx, hc, b1] <;> exact chk1 (by kernel_rfl)
      | true =>
        cases b2 : inB a.Val.size 1 16 with
        | false =>
          rw [bad (attrAt_2 hx b2)]
          unfold inB at b2
          simp only [go_sem, Nat.reduceLT, Nat.reduceAdd, Nat.reduceSub, Nat.reduceEqDiff, Nat.reduceLeDiff, Int.reduceEq, Int.reduceBEq, Int.reduceBNe, Int.reduceNeg, UInt8.reduceToNat, h1, hx, hc, b1, hin, b2] <;> exact chk1 (by kernel_rfl)
        | true =>
          by_cases h0 : j = 0
          · have e := attrAt_0 hx h0
            rw [b1, b2] at e
            unfold inB at b2
            have hgt : ¬ ((j : Int) > 0) := by omega
            simp only [go_sem, Nat.reduceLT, Nat.reduceAdd, Nat.reduceSub, Nat.reduceEqDiff, Nat.reduceLeDiff, Int.reduceEq, Int.reduceBEq, Int.reduceBNe, Int.reduceNeg, UInt8.reduceToNat, h1, hx, hc, b1, hin, b2, hgt, wrap_succ hlt (by omega)]
            exact chk (by kernel_rfl) ⟨_, by omega, j + 1, hlt, rfl, step e, rfl⟩
          · have hgt : ((j : Int) > 0) := by omega
            have hy : l[j - 1]? = some l[j - 1] := List.getElem?_eq_getElem (by omega)
            generalize l[j - 1] = y at hy
            have e := attrAt_s hx h0 hy
            rw [b1, b2] at e
            unfold inB at b2
            obtain ⟨j', hj'⟩ : ∃ j', j' = j - 1 := ⟨_, rfl⟩
            rw [← hj'] at hy
            have ws : IntKind.i64.wrap ((j : Int) - 1) = (j' : Int) := by rw [wrap_in (by omega) (by omega)]; omega
            cases b3 : lessB y.Name a.Name with
            | false =>
              rw [bad (by rw [e, b3]; rfl)]
              unfold lessB at b3
              simp only [go_sem, Nat.reduceLT, Nat.reduceAdd, Nat.reduceSub, Nat.reduceEqDiff, Nat.reduceLeDiff, Int.reduceEq, Int.reduceBEq, Int.reduceBNe, Int.reduceNeg, UInt8.reduceToNat, h1, hx, hc, b1, hin, b2, hgt, ws, hy, b3, wrap_succ hlt (by omega)] <;> exact chk1 (by kernel_rfl)
            | true =>
              have e' : attrAt l j = true := by rw [e, b3]; rfl
              unfold lessB at b3
              simp only [go_sem, Nat.reduceLT, Nat.reduceAdd, Nat.reduceSub, Nat.reduceEqDiff, Nat.reduceLeDiff, Int.reduceEq, Int.reduceBEq, Int.reduceBNe, Int.reduceNeg, UInt8.reduceToNat, h1, hx, hc, b1, hin, b2, hgt, ws, hy, b3, wrap_succ hlt (by omega)]
              exact chk (by kernel_rfl) ⟨_, by omega, j + 1, hlt, rfl, step e', rfl⟩
    · have h1 : ¬ ((j : Int) < (l.length : Int)) := by omega
      obtain rfl : j = l.length := by omega
      have e : attrsB l = decide ((l.length : Int) ≤ 4) := by unfold attrsB; rw [allB_all hp, Bool.true_and]
      rw [e]
      simp only [go_sem, Nat.reduceLT, Nat.reduceAdd, Nat.reduceSub, Nat.reduceEqDiff, Nat.reduceLeDiff, Int.reduceEq, Int.reduceBEq, Int.reduceBNe, Int.reduceNeg, UInt8.reduceToNat, h1]

set_option maxHeartbeats 1000000 in
theorem attrsImpl_ok (n : Nat) (hn : Big + 3 ≤ n) (l : List TAttr) (ho : ∀ a ∈ l, a.ok) (hl : l.length ≤ Bd) : pcall env n 116 [.c .one [.sh true (.s 2 (l.map TAttr.pv))]] [] = some ⟨pvSV (.b (attrsB l)), []⟩ := by
  obtain ⟨m, rfl⟩ := ex_pred hn
  have hB := big_bd
  have hbd : Bd = 1048576 := rfl
  have hin := fun a b c => from_ok m (deep hn (by decide)) a b c
  simp only [go_sem] at hin
  refine wq_eq (wq_pcall (fn := Tryz.f116) rfl rfl rfl (Nat.le_of_ble_eq_true rfl) ?_)
  unfold Tryz.f116
  simp only [go_sem, Nat.reduceLT, Nat.reduceAdd, Nat.reduceSub, Nat.reduceEqDiff, Nat.reduceLeDiff, Int.reduceEq, Int.reduceBEq, Int.reduceBNe, Int.reduceNeg, UInt8.reduceToNat]
  refine wq_loop_at (fun k σ => ∃ j : Nat, j ≤ l.length ∧ k = l.length - j ∧ (∀ i, i < j → attrAt l i = true) ∧ σ = slots 42 [(0, .c .one [.sh true (.s 2 (l.map TAttr.pv))]), (5, .c .one [.sh true (.s 2 (l.map TAttr.pv))]), (6, .c .one [.sh false (.i .i64 (l.length : Nat))]), (7, .c .one [.sh false (.i .i64 (j : Nat))])]) l.length (by omega) ?_ ?_
  · simp only [go_sem, Nat.reduceLT, Nat.reduceAdd, Nat.reduceSub, Nat.reduceEqDiff, Nat.reduceLeDiff, Int.reduceEq, Int.reduceBEq, Int.reduceBNe, Int.reduceNeg, UInt8.reduceToNat]
    exact ⟨0, Nat.zero_le _, rfl, fun i hi => absurd hi (Nat.not_lt_zero _), rfl⟩
  · rintro k σ ⟨j, hj, rfl, hp, rfl⟩
    by_cases hlt : j < l.length
    · have h1 : ((j : Int) < (l.length : Int)) := by omega
      have hx : l[j]? = some l[j] := List.getElem?_eq_getElem hlt
      have hok := ho _ (List.getElem_mem hlt)
      generalize l[j] = a at hx hok
      have hc := nameImpl_ok m (deep hn (by decide)) a.Name hok.Name
      simp only [go_sem] at hc
      have step : attrAt l j = true → ∀ i, i < j + 1 → attrAt l i = true := fun e i hi => by
        rcases Nat.lt_succ_iff_lt_or_eq.1 hi with h | h
        · exact hp i h
        · subst h; exact e
      have bad : attrAt l j = false → attrsB l = false := fun e => by unfold attrsB; rw [allB_bad hlt e, Bool.false_and]
      cases b1 : nameB a.Name with
      | false =>
        rw [bad (attrAt_1 hx b1)]
        simp only [go_sem, Nat.reduceLT, Nat.reduceAdd, Nat.reduceSub, Nat.reduceEqDiff, Nat.reduceLeDiff, Int.reduceEq, Int.reduceBEq, Int.reduceBNe, Int.reduceNeg, UInt8.reduceToNat, h1, hx, hc, b1] <;> exact chk1 (by kernel_rfl)
      | true =>
        cases b2 : inB a.Val.size 1 16 with
        | false =>
          rw [bad (attrAt_2 hx b2)]
          unfold inB at b2
          simp only [go_sem, Nat.reduceLT, Nat.reduceAdd, Nat.reduceSub, Nat.reduceEqDiff, Nat.reduceLeDiff, Int.reduceEq, Int.reduceBEq, Int.reduceBNe, Int.reduceNeg, UInt8.reduceToNat, h1, hx, hc, b1, hin, b2] <;> exact chk1 (by kernel_rfl)
        | true =>
          by_cases h0 : j = 0
          · have e := attrAt_0 hx h0
            rw [b1, b2] at e
            unfold inB at b2
            have hgt : ¬ ((j : Int) > 0) := by omega
            simp only [go_sem, Nat.reduceLT, Nat.reduceAdd, Nat.reduceSub, Nat.reduceEqDiff, Nat.reduceLeDiff, Int.reduceEq, Int.reduceBEq, Int.reduceBNe, Int.reduceNeg, UInt8.reduceToNat, h1, hx, hc, b1, hin, b2, hgt, wrap_succ hlt (by omega)]
            exact chk (by kernel_rfl) ⟨_, by omega, j + 1, hlt, rfl, step e, rfl⟩
          · have hgt : ((j : Int) > 0) := by omega
            have hy : l[j - 1]? = some l[j - 1] := List.getElem?_eq_getElem (by omega)
            generalize l[j - 1] = y at hy
            have e := attrAt_s hx h0 hy
            rw [b1, b2] at e
            unfold inB at b2
            obtain ⟨j', hj'⟩ : ∃ j', j' = j - 1 := ⟨_, rfl⟩
            rw [← hj'] at hy
            have ws : IntKind.i64.wrap ((j : Int) - 1) = (j' : Int) := by rw [wrap_in (by omega) (by omega)]; omega
            cases b3 : lessB y.Name a.Name with
            | false =>
              rw [bad (by rw [e, b3]; rfl)]
              unfold lessB at b3
              simp only [go_sem, Nat.reduceLT, Nat.reduceAdd, Nat.reduceSub, Nat.reduceEqDiff, Nat.reduceLeDiff, Int.reduceEq, Int.reduceBEq, Int.reduceBNe, Int.reduceNeg, UInt8.reduceToNat, h1, hx, hc, b1, hin, b2, hgt, ws, hy, b3, wrap_succ hlt (by omega)] <;> exact chk1 (by kernel_rfl)
            | true =>
              have e' : attrAt l j = true := by rw [e, b3]; rfl
              unfold lessB at b3
              simp only [go_sem, Nat.reduceLT, Nat.reduceAdd, Nat.reduceSub, Nat.reduceEqDiff, Nat.reduceLeDiff, Int.reduceEq, Int.reduceBEq, Int.reduceBNe, Int.reduceNeg, UInt8.reduceToNat, h1, hx, hc, b1, hin, b2, hgt, ws, hy, b3, wrap_succ hlt (by omega)]
              exact chk (by kernel_rfl) ⟨_, by omega, j + 1, hlt, rfl, step e', rfl⟩
    · have h1 : ¬ ((j : Int) < (l.length : Int)) := by omega
      obtain rfl : j = l.length := by omega
      have e : attrsB l = decide ((l.length : Int) ≤ 4) := by unfold attrsB; rw [allB_all hp, Bool.true_and]
      rw [e]
      simp only [go_sem, Nat.reduceLT, Nat.reduceAdd, Nat.reduceSub, Nat.reduceEqDiff, Nat.reduceLeDiff, Int.reduceEq, Int.reduceBEq, Int.reduceBNe, Int.reduceNeg, UInt8.reduceToNat, h1]

/-- Is an entry right, behind the one before it? -/
def entOne (prev : Option TEnt) (a : TEnt) : Bool := nameB a.Name && inB a.Ino 2 1000 && (match prev with
  | some y => lessB y.Name a.Name
  | none => true)
def entAt (l : List TEnt) (i : Nat) : Bool := match l[i]? with
  | some a => entOne (if i = 0 then none else l[i - 1]?) a
  | none => true
def entsB (l : List TEnt) : Bool := allB l.length (entAt l) && decide ((l.length : Int) ≤ 10)
theorem entAt_0 {l : List TEnt} {j : Nat} {a : TEnt} (h : l[j]? = some a) (h0 : j = 0) : entAt l j = (nameB a.Name && inB a.Ino 2 1000) := by
  simp only [entAt, h, entOne, if_pos h0, Bool.and_true]
theorem entAt_s {l : List TEnt} {j : Nat} {a y : TEnt} (h : l[j]? = some a) (h0 : j ≠ 0) (hy : l[j - 1]? = some y) : entAt l j = (nameB a.Name && inB a.Ino 2 1000 && lessB y.Name a.Name) := by
  simp only [entAt, h, entOne, if_neg h0, hy]
theorem entAt_1 {l : List TEnt} {j : Nat} {a : TEnt} (h : l[j]? = some a) (hb : nameB a.Name = false) : entAt l j = false := by
  simp only [entAt, h, entOne, hb, Bool.false_and]
theorem entAt_2 {l : List TEnt} {j : Nat} {a : TEnt} (h : l[j]? = some a) (hb : inB a.Ino 2 1000 = false) : entAt l j = false := by
  simp only [entAt, h, entOne, hb, Bool.and_false, Bool.false_and]

set_option maxHeartbeats 1000000 in
theorem entsSpec_ok (n : Nat) (hn : Big + 3 ≤ n) (l : List TEnt) (ho : ∀ a ∈ l, a.ok) (hl : l.length ≤ Bd) : pcall env n 113 [.c .one [.sh true (.s 2 (l.map TEnt.pv))]] [] = some ⟨pvSV (.b (entsB l)), []⟩ := by
  obtain ⟨m, rfl⟩ := ex_pred hn
  have hB := big_bd
  have hbd : Bd = 1048576 := rfl
  have hin := fun a b c => l1In_ok m (deep hn (by decide)) a b c
  simp only [go_sem] at hin
  refine wq_eq (wq_pcall (fn := Tryz.f113) rfl rfl rfl (Nat.le_of_ble_eq_true rfl) ?_)
  unfold Tryz.f113
  simp only [go_sem, Nat.reduceLT, Nat.reduceAdd, Nat.reduceSub, Nat.reduceEqDiff, Nat.reduceLeDiff, Int.reduceEq, Int.reduceBEq, Int.reduceBNe, Int.reduceNeg, UInt8.reduceToNat]
  refine wq_loop_at (fun k σ => ∃ j : Nat, j ≤ l.length ∧ k = l.length - j ∧ (∀ i, i < j → entAt l i = true) ∧ σ = slots 47 [(0, .c .one [.sh true (.s 2 (l.map TEnt.pv))]), (3, .c .one [.sh false (.i .i64 (j : Nat))])]) l.length (by omega) ?_ ?_
  · simp only [go_sem, Nat.reduceLT, Nat.reduceAdd, Nat.reduceSub, Nat.reduceEqDiff, Nat.reduceLeDiff, Int.reduceEq, Int.reduceBEq, Int.reduceBNe, Int.reduceNeg, UInt8.reduceToNat]
    exact ⟨0, Nat.zero_le _, rfl, fun i hi => absurd hi (Nat.not_lt_zero _), rfl⟩
  · rintro k σ ⟨j, hj, rfl, hp, rfl⟩
    by_cases hlt : j < l.length
    · have h1 : ((j : Int) < (l.length : Int)) := by omega
      have hx : l[j]? = some l[j] := List.getElem?_eq_getElem hlt
      have hok := ho _ (List.getElem_mem hlt)
      generalize l[j] = a at hx hok
      have hc := nameSpec_ok m (deep hn (by decide)) a.Name hok.Name
      simp only [go_sem] at hc
      have step : entAt l j = true → ∀ i, i < j + 1 → entAt l i = true := fun e i hi => by
        rcases Nat.lt_succ_iff_lt_or_eq.1 hi with h | h
        · exact hp i h
        · subst h; exact e
      have bad : entAt l j = false → entsB l = false := fun e => by unfold entsB; rw [allB_bad hlt e, Bool.false_and]
      cases b1 : nameB a.Name with
      | false =>
        rw [bad (entAt_1 hx b1)]
        simp only [go_sem, Nat.reduceLT, Nat.reduceAdd, Nat.reduceSub, Nat.reduceEqDiff, Nat.reduceLeDiff, Int.reduceEq, Int.reduceBEq, Int.reduceBNe, Int.reduceNeg, UInt8.reduceToNat, h1, hx, hc, b1] <;> exact chk1 (by kernel_rfl)
      | true =>
        cases b2 : inB a.Ino 2 1000 with
        | false =>
          rw [bad (entAt_2 hx b2)]
          unfold inB at b2
          simp only [go_sem, Nat.reduceLT, Nat.reduceAdd, Nat.reduceSub, Nat.reduceEqDiff, Nat.reduceLeDiff, Int.reduceEq, Int.reduceBEq, Int.reduceBNe, Int.reduceNeg, UInt8.reduceToNat, h1, hx, hc, b1, hin, b2] <;> exact chk1 (by kernel_rfl)
        | true =>
          by_cases h0 : j = 0
          · have e := entAt_0 hx h0
            rw [b1, b2] at e
            unfold inB at b2
            have hgt : ¬ ((j : Int) > 0) := by omega
            simp only [go_sem, Nat.reduceLT, Nat.reduceAdd, Nat.reduceSub, Nat.reduceEqDiff, Nat.reduceLeDiff, Int.reduceEq, Int.reduceBEq, Int.reduceBNe, Int.reduceNeg, UInt8.reduceToNat, h1, hx, hc, b1, hin, b2, hgt, wrap_succ hlt (by omega)]
            exact chk (by kernel_rfl) ⟨_, by omega, j + 1, hlt, rfl, step e, rfl⟩
          · have hgt : ((j : Int) > 0) := by omega
            have hy : l[j - 1]? = some l[j - 1] := List.getElem?_eq_getElem (by omega)
            generalize l[j - 1] = y at hy
            have e := entAt_s hx h0 hy
            rw [b1, b2] at e
            unfold inB at b2
            obtain ⟨j', hj'⟩ : ∃ j', j' = j - 1 := ⟨_, rfl⟩
            rw [← hj'] at hy
            have ws : IntKind.i64.wrap ((j : Int) - 1) = (j' : Int) := by rw [wrap_in (by omega) (by omega)]; omega
            cases b3 : lessB y.Name a.Name with
            | false =>
              rw [bad (by rw [e, b3]; rfl)]
              unfold lessB at b3
              simp only [go_sem, Nat.reduceLT, Nat.reduceAdd, Nat.reduceSub, Nat.reduceEqDiff, Nat.reduceLeDiff, Int.reduceEq, Int.reduceBEq, Int.reduceBNe, Int.reduceNeg, UInt8.reduceToNat, h1, hx, hc, b1, hin, b2, hgt, ws, hy, b3, wrap_succ hlt (by omega)] <;> exact chk1 (by kernel_rfl)
            | true =>
              have e' : entAt l j = true := by rw [e, b3]; rfl
              unfold lessB at b3
              simp only [go_sem, Nat.reduceLT, Nat.reduceAdd, Nat.reduceSub, Nat.reduceEqDiff, Nat.reduceLeDiff, Int.reduceEq, Int.reduceBEq, Int.reduceBNe, Int.reduceNeg, UInt8.reduceToNat, h1, hx, hc, b1, hin, b2, hgt, ws, hy, b3, wrap_succ hlt (by omega)]
              exact chk (by kernel_rfl) ⟨_, by omega, j + 1, hlt, rfl, step e', rfl⟩
    · have h1 : ¬ ((j : Int) < (l.length : Int)) := by omega
      obtain rfl : j = l.length := by omega
      have e : entsB l = decide ((l.length : Int) ≤ 10) := by unfold entsB; rw [allB_all hp, Bool.true_and]
      rw [e]
      simp only [go_sem, Nat.reduceLT, Nat.reduceAdd, Nat.reduceSub, Nat.reduceEqDiff, Nat.reduceLeDiff, Int.reduceEq, Int.reduceBEq, Int.reduceBNe, Int.reduceNeg, UInt8.reduceToNat, h1]

end Go.Proofs.YticgilhndadkiaaGreatDoor.R
