/- Attributes and entries: what both programs ask of them. -/
import Derived.Test.YtblelojdboefjaaDoorYe
set_option maxRecDepth 100000
set_option linter.unusedVariables false
set_option linter.unusedSimpArgs false
namespace Go.Proofs.YtblelojdboefjaaDoor.R
open Go

/-- It holds at each place below n. -/
def allB (n : Nat) (p : Nat → Bool) : Bool := (List.range n).all p
theorem allB_bad {n i : Nat} {p : Nat → Bool} (hi : i < n) (h : p i = false) : allB n p = false := by
  unfold allB; rw [List.all_eq_false]; exact ⟨i, List.mem_range.2 hi, by simp [h]⟩
theorem allB_all {n : Nat} {p : Nat → Bool} (h : ∀ i, i < n → p i = true) : allB n p = true := by
  unfold allB; rw [List.all_eq_true]; exact fun i hi => h i (List.mem_range.1 hi)
theorem allB_and (n : Nat) (p q : Nat → Bool) : allB n (fun i => p i && q i) = (allB n p && allB n q) := by
  unfold allB
  induction List.range n with
  | nil => rfl
  | cons i l ih => simp only [List.all_cons, ih]; cases p i <;> cases q i <;> simp
/-- Is the text before the other one? -/
def lessB (x y : ByteArray) : Bool := Op.bytesLess x.toList y.toList
def inB (n a b : Int) : Bool := decide (n ≥ a) && decide (n ≤ b)
/-- Is an attribute right, behind the one before it? -/
def attrOne (prev : Option TAttr) (a : TAttr) : Bool := nameB a.Name && inB a.Val.size 1 16 && (match prev with
  | some y => lessB y.Name a.Name
  | none => true)
def attrAt (l : List TAttr) (i : Nat) : Bool := match l[i]? with
  | some a => attrOne (if i = 0 then none else l[i - 1]?) a
  | none => true
def attrsB (l : List TAttr) : Bool := allB l.length (attrAt l) && decide ((l.length : Int) ≤ 4)
theorem attrAt_0 {l : List TAttr} {j : Nat} {a : TAttr} (h : l[j]? = some a) (h0 : j = 0) : attrAt l j = (nameB a.Name && inB a.Val.size 1 16) := by
  simp only [attrAt, h, attrOne, if_pos h0, Bool.and_true]
theorem attrAt_s {l : List TAttr} {j : Nat} {a y : TAttr} (h : l[j]? = some a) (h0 : j ≠ 0) (hy : l[j - 1]? = some y) : attrAt l j = (nameB a.Name && inB a.Val.size 1 16 && lessB y.Name a.Name) := by
  simp only [attrAt, h, attrOne, if_neg h0, hy]
theorem attrAt_1 {l : List TAttr} {j : Nat} {a : TAttr} (h : l[j]? = some a) (hb : nameB a.Name = false) : attrAt l j = false := by
  simp only [attrAt, h, attrOne, hb, Bool.false_and]
theorem attrAt_2 {l : List TAttr} {j : Nat} {a : TAttr} (h : l[j]? = some a) (hb : inB a.Val.size 1 16 = false) : attrAt l j = false := by
  simp only [attrAt, h, attrOne, hb, Bool.and_false, Bool.false_and]

set_option maxHeartbeats 1000000 in
theorem attrsSpec_ok (n : Nat) (hn : Big + 3 ≤ n) (l : List TAttr) (ho : ∀ a ∈ l, a.ok) (hl : l.length ≤ Bd) : pcall env n 55 [.c .one [.sh true (.s 2 (l.map TAttr.pv))]] [] = some ⟨pvSV (.b (attrsB l)), []⟩ := by
  obtain ⟨m, rfl⟩ := ex_pred hn
  have hB := big_bd
  have hbd : Bd = 1048576 := rfl
  have hin := fun a b c => l1In_ok m (deep hn (by decide)) a b c
  simp only [go_sem] at hin
  refine wq_eq (wq_pcall (fn := Tryd.f55) rfl rfl rfl (Nat.le_of_ble_eq_true rfl) ?_)
  unfold Tryd.f55
  simp only [go_sem, Nat.reduceLT, Nat.reduceAdd, Nat.reduceSub, Nat.reduceEqDiff, Nat.reduceLeDiff, Int.reduceEq, Int.reduceBEq, Int.reduceBNe, Int.reduceNeg, UInt8.reduceToNat]
  refine wq_loop_at (fun k σ => ∃ j : Nat, j ≤ l.length ∧ k = l.length - j ∧ (∀ i, i < j → attrAt l i = true) ∧ σ = slots 48 [(0, .c .one [.sh true (.s 2 (l.map TAttr.pv))]), (3, .c .one [.sh false (.i .i64 (j : Nat))])]) l.length (by omega) ?_ ?_
  · simp only [go_sem, Nat.reduceLT, Nat.reduceAdd, Nat.reduceSub, Nat.reduceEqDiff, Nat.reduceLeDiff, Int.reduceEq, Int.reduceBEq, Int.reduceBNe, Int.reduceNeg, UInt8.reduceToNat]
    exact ⟨0, Nat.zero_le _, rfl, fun i hi => absurd hi (Nat.not_lt_zero _), rfl⟩
  · rintro k σ ⟨j, hj, rfl, hp, rfl⟩
    by_cases hlt : j < l.length
    · have h1 : ((j : Int) < (l.length : Int)) := by omega
      have hx : l[j]? = some l[j] := List.getElem?_eq_getElem hlt
      have hok := ho _ (List.getElem_mem hlt)
      generalize l[j] = a at hx hok
      have hc := nameSpec_ok m (deep hn (by decide)) a.Name hok.Name
      simp only [go_sem] at hc
      have step : attrAt l j = true → ∀ i, i < j + 1 → attrAt l i = true := fun e i hi => by
        rcases Nat.lt_succ_iff_lt_or_eq.1 hi with h | h
        · exact hp i h
        · subst h; exact e
      have bad : attrAt l j = false → attrsB l = false := fun e => by unfold attrsB; rw [allB_bad hlt e, Bool.false_and]
      cases b1 : nameB a.Name with
      | false =>
        rw [bad (attrAt_1 hx b1)]
        simp only [go_sem, Nat.reduceLT, Nat.reduceAdd, Nat.reduceSub, Nat.reduceEqDiff, Nat.reduceLeDiff, Int.reduceEq, Int.reduceBEq, Int.reduceBNe, Int.reduceNeg, UInt8.reduceToNat, h1, hx, hc, b1] <;> exact chk1 (by kernel_rfl)
      | true =>
        cases b2 : inB a.Val.size 1 16 with
        | false =>
          rw [bad (attrAt_2 hx b2)]
          unfold inB at b2
          simp only [go_sem, Nat.reduceLT, Nat.reduceAdd, Nat.reduceSub, Nat.reduceEqDiff, Nat.reduceLeDiff, Int.reduceEq, Int.reduceBEq, Int.reduceBNe, Int.reduceNeg, UInt8.reduceToNat, h1, hx, hc, b1, hin, b2] <;> exact chk1 (by kernel_rfl)
        | true =>
          by_cases h0 : j = 0
          · have e := attrAt_0 hx h0
            rw [b1, b2] at e
            unfold inB at b2
            have hgt : ¬ ((j : Int) > 0) := by omega
            simp only [go_sem, Nat.reduceLT, Nat.reduceAdd, Nat.reduceSub, Nat.reduceEqDiff, Nat.reduceLeDiff, Int.reduceEq, Int.reduceBEq, Int.reduceBNe, Int.reduceNeg, UInt8.reduceToNat, h1, hx, hc, b1, hin, b2, hgt, wrap_succ hlt (by omega)]
            exact chk (by kernel_rfl) ⟨_, by omega, j + 1, hlt, rfl, step e, rfl⟩
          · have hgt : ((j : Int) > 0) := by omega
            have hy : l[j - 1]? = some l[j - 1] := List.getElem?_eq_getElem (by omega)
            generalize l[j - 1] = y at hy
            have e := attrAt_s hx h0 hy
            rw [b1, b2] at e
            unfold inB at b2
            obtain ⟨j', hj'⟩ : ∃ j', j' = j - 1 := ⟨_, rfl⟩
            rw [← hj'] at hy
            have ws : IntKind.i64.wrap ((j : Int) - 1) = (j' : Int) := by rw [wrap_in (by omega) (by omega)]; omega
            cases b3 : lessB y.Name a.Name with
            | false =>
              rw [bad (by rw [e, b3]; rfl)]
              unfold lessB at b3
              simp only [go_sem, Nat.reduceLT, Nat.reduceAdd, Nat.reduceSub, Nat.reduceEqDiff, Nat.reduceLeDiff, Int.reduceEq, Int.reduceBEq, Int.reduceBNe, Int.reduceNeg, UInt8.reduceToNat, h1, hx, hc, b1, hin, b2, hgt, ws, hy, b3, wrap_succ hlt (by omega)] <;> exact chk1 (by kernel_rfl)
            | true =>
              have e' : attrAt l j = true := by rw [e, b3]; rfl
              unfold lessB at b3
              simp only [go_sem, Nat.reduceLT, Nat.reduceAdd, Nat.reduceSub, Nat.reduceEqDiff, Nat.reduceLeDiff, Int.reduceEq, Int.reduceBEq, Int.reduceBNe, Int.reduceNeg, UInt8.reduceToNat, h1, hx, hc, b1, hin, b2, hgt, ws, hy, b3, wrap_succ hlt (by omega)]
              exact chk (by kernel_rfl) ⟨_, by omega, j + 1, hlt, rfl, step e', rfl⟩
    · have h1 : ¬ ((j : Int) < (l.length : Int)) := by omega
      obtain rfl : j = l.length := by omega
      have e : attrsB l = decide ((l.length : Int) ≤ 4) := by unfold attrsB; rw [allB_all hp, Bool.true_and]
      rw [e]
      simp only [go_sem, Nat.reduceLT, Nat.reduceAdd, Nat.reduceSub, Nat.reduceEqDiff, Nat.reduceLeDiff, Int.reduceEq, Int.reduceBEq, Int.reduceBNe, Int.reduceNeg, UInt8.reduceToNat, h1]

set_option maxHeartbeats 1000000 in
theorem attrsImpl_ok (n : Nat) (hn : Big + 3 ≤ n) (l : List TAttr) (ho : ∀ a ∈ l, a.ok) (hl : l.length ≤ Bd) : pcall env n 62 [.c .one [.sh true (.s 2 (l.map TAttr.pv))]] [] = some ⟨pvSV (.b (attrsB l)), []⟩ := by
  obtain ⟨m, rfl⟩ := ex_pred hn
  have hB := big_bd
  have hbd : Bd = 1048576 := rfl
  have hin := fun a b c => from_ok m (deep hn (by decide)) a b c
  simp only [go_sem] at hin
  refine wq_eq (wq_pcall (fn := Tryd.f62) rfl rfl rfl (Nat.le_of_ble_eq_true rfl) ?_)
  unfold Tryd.f62
  simp only [go_sem, Nat.reduceLT, Nat.reduceAdd, Nat.reduceSub, Nat.reduceEqDiff, Nat.reduceLeDiff, Int.reduceEq, Int.reduceBEq, Int.reduceBNe, Int.reduceNeg, UInt8.reduceToNat]
  refine wq_loop_at (fun k σ => ∃ j : Nat, j ≤ l.length ∧ k = l.length - j ∧ (∀ i, i < j → attrAt l i = true) ∧ σ = slots 42 [(0, .c .one [.sh true (.s 2 (l.map TAttr.pv))]), (5, .c .one [.sh true (.s 2 (l.map TAttr.pv))]), (6, .c .one [.sh false (.i .i64 (l.length : Nat))]), (7, .c .one [.sh false (.i .i64 (j : Nat))])]) l.length (by omega) ?_ ?_
  · simp only [go_sem, Nat.reduceLT, Nat.reduceAdd, Nat.reduceSub, Nat.reduceEqDiff, Nat.reduceLeDiff, Int.reduceEq, Int.reduceBEq, Int.reduceBNe, Int.reduceNeg, UInt8.reduceToNat]
    exact ⟨0, Nat.zero_le _, rfl, fun i hi => absurd hi (Nat.not_lt_zero _), rfl⟩
  · rintro k σ ⟨j, hj, rfl, hp, rfl⟩
    by_cases hlt : j < l.length
    · have h1 : ((j : Int) < (l.length : Int)) := by omega
      have hx : l[j]? = some l[j] := List.getElem?_eq_getElem hlt
      have hok := ho _ (List.getElem_mem hlt)
      generalize l[j] = a at hx hok
      have hc := nameImpl_ok m (deep hn (by decide)) a.Name hok.Name
      simp only [go_sem] at hc
      have step : attrAt l j = true → ∀ i, i < j + 1 → attrAt l i = true := fun e i hi => by
        rcases Nat.lt_succ_iff_lt_or_eq.1 hi with h | h
        · exact hp i h
        · subst h; exact e
      have bad : attrAt l j = false → attrsB l = false := fun e => by unfold attrsB; rw [allB_bad hlt e, Bool.false_and]
      cases b1 : nameB a.Name with
      | false =>
        rw [bad (attrAt_1 hx b1)]
        simp only [go_sem, Nat.reduceLT, Nat.reduceAdd, Nat.reduceSub, Nat.reduceEqDiff, Nat.reduceLeDiff, Int.reduceEq, Int.reduceBEq, Int.reduceBNe, Int.reduceNeg, UInt8.reduceToNat, h1, hx, hc, b1] <;> exact chk1 (by kernel_rfl)
      | true =>
        cases b2 : inB a.Val.size 1 16 with
        | false =>
          rw [bad (attrAt_2 hx b2)]
          unfold inB at b2
          simp only [go_sem, Nat.reduceLT, Nat.reduceAdd, Nat.reduceSub, Nat.reduceEqDiff, Nat.reduceLeDiff, Int.reduceEq, Int.reduceBEq, Int.reduceBNe, Int.reduceNeg, UInt8.reduceToNat, h1, hx, hc, b1, hin, b2] <;> exact chk1 (by kernel_rfl)
        | true =>
          by_cases h0 : j = 0
          · have e := attrAt_0 hx h0
            rw [b1, b2] at e
            unfold inB at b2
            have hgt : ¬ ((j : Int) > 0) := by omega
            simp only [go_sem, Nat.reduceLT, Nat.reduceAdd, Nat.reduceSub, Nat.reduceEqDiff, Nat.reduceLeDiff, Int.reduceEq, Int.reduceBEq, Int.reduceBNe, Int.reduceNeg, UInt8.reduceToNat, h1, hx, hc, b1, hin, b2, hgt, wrap_succ hlt (by omega)]
            exact chk (by kernel_rfl) ⟨_, by omega, j + 1, hlt, rfl, step e, rfl⟩
          · have hgt : ((j : Int) > 0) := by omega
            have hy : l[j - 1]? = some l[j - 1] := List.getElem?_eq_getElem (by omega)
            generalize l[j - 1] = y at hy
            have e := attrAt_s hx h0 hy
            rw [b1, b2] at e
            unfold inB at b2
            obtain ⟨j', hj'⟩ : ∃ j', j' = j - 1 := ⟨_, rfl⟩
            rw [← hj'] at hy
            have ws : IntKind.i64.wrap ((j : Int) - 1) = (j' : Int) := by rw [wrap_in (by omega) (by omega)]; omega
            cases b3 : lessB y.Name a.Name with
            | false =>
              rw [bad (by rw [e, b3]; rfl)]
              unfold lessB at b3
              simp only [go_sem, Nat.reduceLT, Nat.reduceAdd, Nat.reduceSub, Nat.reduceEqDiff, Nat.reduceLeDiff, Int.reduceEq, Int.reduceBEq, Int.reduceBNe, Int.reduceNeg, UInt8.reduceToNat, h1, hx, hc, b1, hin, b2, hgt, ws, hy, b3, wrap_succ hlt (by omega)] <;> exact chk1 (by kernel_rfl)
            | true =>
              have e' : attrAt l j = true := by rw [e, b3]; rfl
              unfold lessB at b3
              simp only [go_sem, Nat.reduceLT, Nat.reduceAdd, Nat.reduceSub, Nat.reduceEqDiff, Nat.reduceLeDiff, Int.reduceEq, Int.reduceBEq, Int.reduceBNe, Int.reduceNeg, UInt8.reduceToNat, h1, hx, hc, b1, hin, b2, hgt, ws, hy, b3, wrap_succ hlt (by omega)]
              exact chk (by kernel_rfl) ⟨_, by omega, j + 1, hlt, rfl, step e', rfl⟩
    · have h1 : ¬ ((j : Int) < (l.length : Int)) := by omega
      obtain rfl : j = l.length := by omega
      have e : attrsB l = decide ((l.length : Int) ≤ 4) := by unfold attrsB; rw [allB_all hp, Bool.true_and]
      rw [e]
      simp only [go_sem, Nat.reduceLT, Nat.reduceAdd, Nat.reduceSub, Nat.reduceEqDiff, Nat.reduceLeDiff, Int.reduceEq, Int.reduceBEq, Int.reduceBNe, Int.reduceNeg, UInt8.reduceToNat, h1]

/-- Is an entry right by itself? -/
def entryB (e : TEntry) : Bool := innerB e.Path && inB e.Kind 1 2 && !(decide ((e.Data.length : Int) > 100)) && attrsB e.Attrs && !(!(lessB e.First e.Path || e.First.toList == e.Path.toList)) && ((e.Kind == 1) || ((e.Data.length : Int) == 0) && (e.First.toList == e.Path.toList))
set_option maxHeartbeats 1000000 in
theorem entryOkImpl_ok (n : Nat) (hn : Big + 9 ≤ n) (e : TEntry) (he : e.ok) : pcall env n 61 [.c .agg (e.pv.map argC')] [] = some ⟨pvSV (.b (entryB e)), []⟩ := by
  obtain ⟨m, rfl⟩ := ex_pred hn
  have hin := fun a b c => from_ok m (deep hn (by decide)) a b c
  have hpar := isInner_ok m (deep hn (by decide)) e.Path he.Path
  have hat := attrsImpl_ok m (deep hn (by decide)) e.Attrs he.Attrs.1 he.Attrs.2
  simp only [go_sem] at hin hpar hat
  unfold entryB
  refine wq_eq (wq_pcall (fn := Tryd.f61) rfl rfl rfl (Nat.le_of_ble_eq_true rfl) ?_)
  unfold Tryd.f61
  cases b1 : innerB e.Path with
  | false => simp only [go_sem, Nat.reduceLT, Nat.reduceAdd, Nat.reduceSub, Nat.reduceEqDiff, Nat.reduceLeDiff, Int.reduceEq, Int.reduceBEq, Int.reduceBNe, Int.reduceNeg, UInt8.reduceToNat, hpar, b1] <;> exact chk1 (by kernel_rfl)
  | true =>
    cases b2 : inB e.Kind 1 2 with
    | false =>
      unfold inB at b2
      simp only [go_sem, Nat.reduceLT, Nat.reduceAdd, Nat.reduceSub, Nat.reduceEqDiff, Nat.reduceLeDiff, Int.reduceEq, Int.reduceBEq, Int.reduceBNe, Int.reduceNeg, UInt8.reduceToNat, hpar, b1, hin, b2] <;> exact chk1 (by kernel_rfl)
    | true =>
      unfold inB at b2
      by_cases b3 : ((e.Data.length : Int) > 100)
      · simp only [go_sem, Nat.reduceLT, Nat.reduceAdd, Nat.reduceSub, Nat.reduceEqDiff, Nat.reduceLeDiff, Int.reduceEq, Int.reduceBEq, Int.reduceBNe, Int.reduceNeg, UInt8.reduceToNat, hpar, b1, hin, b2, b3] <;> exact chk1 (by kernel_rfl)
      · cases b4 : attrsB e.Attrs with
        | false => simp only [go_sem, Nat.reduceLT, Nat.reduceAdd, Nat.reduceSub, Nat.reduceEqDiff, Nat.reduceLeDiff, Int.reduceEq, Int.reduceBEq, Int.reduceBNe, Int.reduceNeg, UInt8.reduceToNat, hpar, b1, hin, b2, b3, hat, b4] <;> exact chk1 (by kernel_rfl)
        | true =>
          unfold lessB
          cases b5 : (Op.bytesLess e.First.toList e.Path.toList || e.First.toList == e.Path.toList) with
          | false => simp only [go_sem, Nat.reduceLT, Nat.reduceAdd, Nat.reduceSub, Nat.reduceEqDiff, Nat.reduceLeDiff, Int.reduceEq, Int.reduceBEq, Int.reduceBNe, Int.reduceNeg, UInt8.reduceToNat, hpar, b1, hin, b2, b3, hat, b4, b5] <;> exact chk1 (by kernel_rfl)
          | true =>
            cases b6 : (e.Kind == 1) with
            | true => simp only [go_sem, Nat.reduceLT, Nat.reduceAdd, Nat.reduceSub, Nat.reduceEqDiff, Nat.reduceLeDiff, Int.reduceEq, Int.reduceBEq, Int.reduceBNe, Int.reduceNeg, UInt8.reduceToNat, hpar, b1, hin, b2, b3, hat, b4, b5, b6] <;> exact chk1 (by kernel_rfl)
            | false =>
              cases b7 : ((e.Data.length : Int) == 0) with
              | false => simp only [go_sem, Nat.reduceLT, Nat.reduceAdd, Nat.reduceSub, Nat.reduceEqDiff, Nat.reduceLeDiff, Int.reduceEq, Int.reduceBEq, Int.reduceBNe, Int.reduceNeg, UInt8.reduceToNat, hpar, b1, hin, b2, b3, hat, b4, b5, b6, b7] <;> exact chk1 (by kernel_rfl)
              | true => simp only [go_sem, Nat.reduceLT, Nat.reduceAdd, Nat.reduceSub, Nat.reduceEqDiff, Nat.reduceLeDiff, Int.reduceEq, Int.reduceBEq, Int.reduceBNe, Int.reduceNeg, UInt8.reduceToNat, hpar, b1, hin, b2, b3, hat, b4, b5, b6, b7] <;> exact chk1 (by kernel_rfl)

set_option maxHeartbeats 1000000 in
theorem entryOkSpec_ok (n : Nat) (hn : Big + 9 ≤ n) (e : TEntry) (he : e.ok) : pcall env n 57 [.c .agg (e.pv.map argC')] [] = some ⟨pvSV (.b (entryB e)), []⟩ := by
  obtain ⟨m, rfl⟩ := ex_pred hn
  have hin := fun a b c => l1In_ok m (deep hn (by decide)) a b c
  obtain ⟨pa, pb, hpar⟩ := parentOf_ok m (deep hn (by decide)) e.Path he.Path
  have hat := attrsSpec_ok m (deep hn (by decide)) e.Attrs he.Attrs.1 he.Attrs.2
  simp only [go_sem] at hin hpar hat
  unfold entryB
  refine wq_eq (wq_pcall (fn := Tryd.f57) rfl rfl rfl (Nat.le_of_ble_eq_true rfl) ?_)
  unfold Tryd.f57
  cases b1 : innerB e.Path with
  | false => simp only [go_sem, Nat.reduceLT, Nat.reduceAdd, Nat.reduceSub, Nat.reduceEqDiff, Nat.reduceLeDiff, Int.reduceEq, Int.reduceBEq, Int.reduceBNe, Int.reduceNeg, UInt8.reduceToNat, hpar, b1] <;> exact chk1 (by kernel_rfl)
  | true =>
    cases b2 : inB e.Kind 1 2 with
    | false =>
      unfold inB at b2
      simp only [go_sem, Nat.reduceLT, Nat.reduceAdd, Nat.reduceSub, Nat.reduceEqDiff, Nat.reduceLeDiff, Int.reduceEq, Int.reduceBEq, Int.reduceBNe, Int.reduceNeg, UInt8.reduceToNat, hpar, b1, hin, b2] <;> exact chk1 (by kernel_rfl)
    | true =>
      unfold inB at b2
      by_cases b3 : ((e.Data.length : Int) > 100)
      · simp only [go_sem, Nat.reduceLT, Nat.reduceAdd, Nat.reduceSub, Nat.reduceEqDiff, Nat.reduceLeDiff, Int.reduceEq, Int.reduceBEq, Int.reduceBNe, Int.reduceNeg, UInt8.reduceToNat, hpar, b1, hin, b2, b3] <;> exact chk1 (by kernel_rfl)
      · cases b4 : attrsB e.Attrs with
        | false => simp only [go_sem, Nat.reduceLT, Nat.reduceAdd, Nat.reduceSub, Nat.reduceEqDiff, Nat.reduceLeDiff, Int.reduceEq, Int.reduceBEq, Int.reduceBNe, Int.reduceNeg, UInt8.reduceToNat, hpar, b1, hin, b2, b3, hat, b4] <;> exact chk1 (by kernel_rfl)
        | true =>
          unfold lessB
          cases b5 : (Op.bytesLess e.First.toList e.Path.toList || e.First.toList == e.Path.toList) with
          | false => simp only [go_sem, Nat.reduceLT, Nat.reduceAdd, Nat.reduceSub, Nat.reduceEqDiff, Nat.reduceLeDiff, Int.reduceEq, Int.reduceBEq, Int.reduceBNe, Int.reduceNeg, UInt8.reduceToNat, hpar, b1, hin, b2, b3, hat, b4, b5] <;> exact chk1 (by kernel_rfl)
          | true =>
            cases b6 : (e.Kind == 1) with
            | true => simp only [go_sem, Nat.reduceLT, Nat.reduceAdd, Nat.reduceSub, Nat.reduceEqDiff, Nat.reduceLeDiff, Int.reduceEq, Int.reduceBEq, Int.reduceBNe, Int.reduceNeg, UInt8.reduceToNat, hpar, b1, hin, b2, b3, hat, b4, b5, b6] <;> exact chk1 (by kernel_rfl)
            | false =>
              cases b7 : ((e.Data.length : Int) == 0) with
              | false => simp only [go_sem, Nat.reduceLT, Nat.reduceAdd, Nat.reduceSub, Nat.reduceEqDiff, Nat.reduceLeDiff, Int.reduceEq, Int.reduceBEq, Int.reduceBNe, Int.reduceNeg, UInt8.reduceToNat, hpar, b1, hin, b2, b3, hat, b4, b5, b6, b7] <;> exact chk1 (by kernel_rfl)
              | true => simp only [go_sem, Nat.reduceLT, Nat.reduceAdd, Nat.reduceSub, Nat.reduceEqDiff, Nat.reduceLeDiff, Int.reduceEq, Int.reduceBEq, Int.reduceBNe, Int.reduceNeg, UInt8.reduceToNat, hpar, b1, hin, b2, b3, hat, b4, b5, b6, b7] <;> exact chk1 (by kernel_rfl)

end Go.Proofs.YtblelojdboefjaaDoor.R
