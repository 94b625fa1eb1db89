/- Inodes: what both programs ask of them. -/
import Derived.Test.YticgilhndadkiaaGreatDoorUa
set_option maxRecDepth 100000
set_option linter.unusedVariables false
set_option linter.unusedSimpArgs false
namespace Go.Proofs.YticgilhndadkiaaGreatDoor.R
open Go

def kindB (x : TInode) : Bool := match x.Kind == 1 with
  | true => (x.Ents.length : Int) == 0
  | false => match x.Kind == 2 with
    | true => ((x.Data.length : Int) == 0) && decide (x.Links ≤ 1)
    | false => false
/-- Is an inode right? -/
def inodeB (x : TInode) : Bool := inB x.Ino 1 1000 && (inB x.Links 0 1000 && ((x.Links == 0) == (x.Ino == 1))) && !(decide ((x.Data.length : Int) > 100)) && entsB x.Ents && attrsB x.Attrs && kindB x
theorem kind_1 {x : TInode} (h : (x.Kind == 1) = true) : kindB x = ((x.Ents.length : Int) == 0) := by unfold kindB; rw [h]
theorem kind_2 {x : TInode} (h : (x.Kind == 1) = false) (h2 : (x.Kind == 2) = true) : kindB x = (((x.Data.length : Int) == 0) && decide (x.Links ≤ 1)) := by unfold kindB; rw [h, h2]
theorem kind_3 {x : TInode} (h : (x.Kind == 1) = false) (h2 : (x.Kind == 2) = false) : kindB x = false := by unfold kindB; rw [h, h2]

set_option maxHeartbeats 4000000 in
theorem inodeSpec_ok (n : Nat) (hn : Big + 5 ≤ n) (x : TInode) (hx : x.ok) : pcall env n 85 [.c .agg (x.pv.map argC')] [] = some ⟨pvSV (.b (inodeB x)), []⟩ := by
  obtain ⟨m, rfl⟩ := ex_pred hn
  have hin := fun a b c => l1In_ok m (deep hn (by decide)) a b c
  have hat := attrsSpec_ok m (deep hn (by decide)) x.Attrs hx.Attrs.1 hx.Attrs.2
  have hen := entsSpec_ok m (deep hn (by decide)) x.Ents hx.Ents.1 hx.Ents.2
  simp only [go_sem] at hin hat hen
  unfold inodeB
  refine wq_eq (wq_pcall (fn := Tryz.f85) rfl rfl rfl (Nat.le_of_ble_eq_true rfl) ?_)
  unfold Tryz.f85
  cases b1 : inB x.Ino 1 1000 with
  | false =>
    unfold inB at b1
    simp only [go_sem, Nat.reduceLT, Nat.reduceAdd, Nat.reduceSub, Nat.reduceEqDiff, Nat.reduceLeDiff, Int.reduceEq, Int.reduceBEq, Int.reduceBNe, Int.reduceNeg, UInt8.reduceToNat, hin, b1] <;> exact chk1 (by kernel_rfl)
  | true =>
    unfold inB at b1
    cases b2 : inB x.Links 0 1000 with
    | false =>
      unfold inB at b2
      simp only [go_sem, Nat.reduceLT, Nat.reduceAdd, Nat.reduceSub, Nat.reduceEqDiff, Nat.reduceLeDiff, Int.reduceEq, Int.reduceBEq, Int.reduceBNe, Int.reduceNeg, UInt8.reduceToNat, hin, b1, b2] <;> exact chk1 (by kernel_rfl)
    | true =>
      unfold inB at b2
      cases b3 : ((x.Links == 0) == (x.Ino == 1)) with
      | false =>
        simp only [go_sem, Nat.reduceLT, Nat.reduceAdd, Nat.reduceSub, Nat.reduceEqDiff, Nat.reduceLeDiff, Int.reduceEq, Int.reduceBEq, Int.reduceBNe, Int.reduceNeg, UInt8.reduceToNat, hin, b1, b2, b3] <;> exact chk1 (by kernel_rfl)
      | true =>
        by_cases b4 : ((x.Data.length : Int) > 100)
        · simp only [go_sem, Nat.reduceLT, Nat.reduceAdd, Nat.reduceSub, Nat.reduceEqDiff, Nat.reduceLeDiff, Int.reduceEq, Int.reduceBEq, Int.reduceBNe, Int.reduceNeg, UInt8.reduceToNat, hin, b1, b2, b3, b4] <;> exact chk1 (by kernel_rfl)
        · skip
          cases b5 : entsB x.Ents with
          | false =>
            simp only [go_sem, Nat.reduceLT, Nat.reduceAdd, Nat.reduceSub, Nat.reduceEqDiff, Nat.reduceLeDiff, Int.reduceEq, Int.reduceBEq, Int.reduceBNe, Int.reduceNeg, UInt8.reduceToNat, hin, b1, b2, b3, b4, hen, b5] <;> exact chk1 (by kernel_rfl)
          | true =>
            cases b6 : attrsB x.Attrs with
            | false =>
              simp only [go_sem, Nat.reduceLT, Nat.reduceAdd, Nat.reduceSub, Nat.reduceEqDiff, Nat.reduceLeDiff, Int.reduceEq, Int.reduceBEq, Int.reduceBNe, Int.reduceNeg, UInt8.reduceToNat, hin, b1, b2, b3, b4, hen, b5, hat, b6] <;> exact chk1 (by kernel_rfl)
            | true =>
              cases c1 : (x.Kind == 1) with
              | true =>
                rw [kind_1 c1]
                simp only [go_sem, Nat.reduceLT, Nat.reduceAdd, Nat.reduceSub, Nat.reduceEqDiff, Nat.reduceLeDiff, Int.reduceEq, Int.reduceBEq, Int.reduceBNe, Int.reduceNeg, UInt8.reduceToNat, hin, b1, b2, b3, b4, hen, b5, hat, b6, c1] <;> exact chk1 (by kernel_rfl)
              | false =>
                cases c2 : (x.Kind == 2) with
                | false =>
                  rw [kind_3 c1 c2]
                  simp only [go_sem, Nat.reduceLT, Nat.reduceAdd, Nat.reduceSub, Nat.reduceEqDiff, Nat.reduceLeDiff, Int.reduceEq, Int.reduceBEq, Int.reduceBNe, Int.reduceNeg, UInt8.reduceToNat, hin, b1, b2, b3, b4, hen, b5, hat, b6, c1, c2] <;> exact chk1 (by kernel_rfl)
                | true =>
                  rw [kind_2 c1 c2]
                  cases c3 : ((x.Data.length : Int) == 0) with
                  | false =>
                    simp only [go_sem, Nat.reduceLT, Nat.reduceAdd, Nat.reduceSub, Nat.reduceEqDiff, Nat.reduceLeDiff, Int.reduceEq, Int.reduceBEq, Int.reduceBNe, Int.reduceNeg, UInt8.reduceToNat, hin, b1, b2, b3, b4, hen, b5, hat, b6, c1, c2, c3] <;> exact chk1 (by kernel_rfl)
                  | true =>
                    simp only [go_sem, Nat.reduceLT, Nat.reduceAdd, Nat.reduceSub, Nat.reduceEqDiff, Nat.reduceLeDiff, Int.reduceEq, Int.reduceBEq, Int.reduceBNe, Int.reduceNeg, UInt8.reduceToNat, hin, b1, b2, b3, b4, hen, b5, hat, b6, c1, c2, c3] <;> exact chk1 (by kernel_rfl)

theorem ents_len {l : List TEnt} (h : (l.length : Int) > 10) : entsB l = false := by
  unfold entsB
  rw [show decide ((l.length : Int) ≤ 10) = false from decide_eq_false (by omega), Bool.and_false]
set_option maxHeartbeats 4000000 in
theorem inodeImpl_ok (n : Nat) (hn : Big + 5 ≤ n) (x : TInode) (hxo : x.ok) : pcall env n 90 [.c .agg (x.pv.map argC')] [] = some ⟨pvSV (.b (inodeB x)), []⟩ := by
  obtain ⟨m, rfl⟩ := ex_pred hn
  have hB := big_bd
  have hbd : Bd = 1048576 := rfl
  have hin := fun a b c => from_ok m (deep hn (by decide)) a b c
  have hat := attrsImpl_ok m (deep hn (by decide)) x.Attrs hxo.Attrs.1 hxo.Attrs.2
  simp only [go_sem] at hin hat
  have hl := hxo.Ents.2
  have ho := hxo.Ents.1
  refine wq_eq (wq_pcall (fn := Tryz.f90) rfl rfl rfl (Nat.le_of_ble_eq_true rfl) ?_)
  unfold Tryz.f90
  cases b1 : inB x.Ino 1 1000 with
  | false =>
    have e : inodeB x = false := by unfold inodeB; simp [b1]
    rw [e]
    unfold inB at b1
    simp only [go_sem, Nat.reduceLT, Nat.reduceAdd, Nat.reduceSub, Nat.reduceEqDiff, Nat.reduceLeDiff, Int.reduceEq, Int.reduceBEq, Int.reduceBNe, Int.reduceNeg, UInt8.reduceToNat, hin, b1] <;> exact chk1 (by kernel_rfl)
  | true =>
  have b1' := b1
  unfold inB at b1
  by_cases b4 : (x.Data.length : Int) > 100
  · have e : inodeB x = false := by unfold inodeB; simp [b4]
    rw [e]
    simp only [go_sem, Nat.reduceLT, Nat.reduceAdd, Nat.reduceSub, Nat.reduceEqDiff, Nat.reduceLeDiff, Int.reduceEq, Int.reduceBEq, Int.reduceBNe, Int.reduceNeg, UInt8.reduceToNat, hin, b1, b4] <;> exact chk1 (by kernel_rfl)
  by_cases b5 : (x.Ents.length : Int) > 10
  · have e : inodeB x = false := by unfold inodeB; simp [ents_len b5]
    rw [e]
    simp only [go_sem, Nat.reduceLT, Nat.reduceAdd, Nat.reduceSub, Nat.reduceEqDiff, Nat.reduceLeDiff, Int.reduceEq, Int.reduceBEq, Int.reduceBNe, Int.reduceNeg, UInt8.reduceToNat, hin, b1, b4, b5] <;> exact chk1 (by kernel_rfl)
  cases b6 : attrsB x.Attrs with
  | false =>
    have e : inodeB x = false := by unfold inodeB; simp [b6]
    rw [e]
    simp only [go_sem, Nat.reduceLT, Nat.reduceAdd, Nat.reduceSub, Nat.reduceEqDiff, Nat.reduceLeDiff, Int.reduceEq, Int.reduceBEq, Int.reduceBNe, Int.reduceNeg, UInt8.reduceToNat, hin, b1, b4, b5, hat, b6] <;> exact chk1 (by kernel_rfl)
  | true =>
  simp only [go_sem, Nat.reduceLT, Nat.reduceAdd, Nat.reduceSub, Nat.reduceEqDiff, Nat.reduceLeDiff, Int.reduceEq, Int.reduceBEq, Int.reduceBNe, Int.reduceNeg, UInt8.reduceToNat, hin, b1, b4, b5, hat, b6]
  refine wq_loop_at (fun k σ => ∃ j : Nat, j ≤ x.Ents.length ∧ k = x.Ents.length - j ∧ (∀ i, i < j → entAt x.Ents i = true) ∧ σ = slots 94 [(1, .c .box [.sh false (.i .i64 x.Ino), .sh false (.i .i64 x.Kind), .sh false (.i .i64 x.Links), .sh true (.s 1 (x.Data.map bpv)), .sh true (.s 2 (x.Ents.map TEnt.pv)), .sh true (.s 2 (x.Attrs.map TAttr.pv))]), (28, .c .one [.sh true (.s 2 (x.Ents.map TEnt.pv))]), (29, .c .one [.sh false (.i .i64 (x.Ents.length : Nat))]), (30, .c .one [.sh false (.i .i64 (j : Nat))])]) x.Ents.length (by omega) ?_ ?_
  · simp only [go_sem, Nat.reduceLT, Nat.reduceAdd, Nat.reduceSub, Nat.reduceEqDiff, Nat.reduceLeDiff, Int.reduceEq, Int.reduceBEq, Int.reduceBNe, Int.reduceNeg, UInt8.reduceToNat]
    exact ⟨0, Nat.zero_le _, rfl, fun i hi => absurd hi (Nat.not_lt_zero _), rfl⟩
  · rintro k σ ⟨j, hj, rfl, hp, rfl⟩
    by_cases hlt : j < x.Ents.length
    · have h1 : ((j : Int) < (x.Ents.length : Int)) := by omega
      have hx : x.Ents[j]? = some x.Ents[j] := List.getElem?_eq_getElem hlt
      have hok := ho _ (List.getElem_mem hlt)
      generalize x.Ents[j] = a at hx hok
      have hc := nameImpl_ok m (deep hn (by decide)) a.Name hok.Name
      simp only [go_sem] at hc
      have step : entAt x.Ents j = true → ∀ i, i < j + 1 → entAt x.Ents i = true := fun e i hi => by
        rcases Nat.lt_succ_iff_lt_or_eq.1 hi with h | h
        · exact hp i h
        · subst h; exact e
      have bad : entAt x.Ents j = false → inodeB x = false := fun e => by
        have : entsB x.Ents = false := by unfold entsB; rw [allB_bad hlt e, Bool.false_and]
        unfold inodeB; simp [this]
      cases d1 : nameB a.Name with
      | false =>
        rw [bad (entAt_1 hx d1)]
        simp only [go_sem, Nat.reduceLT, Nat.reduceAdd, Nat.reduceSub, Nat.reduceEqDiff, Nat.reduceLeDiff, Int.reduceEq, Int.reduceBEq, Int.reduceBNe, Int.reduceNeg, UInt8.reduceToNat, h1, hx, hc, d1] <;> exact chk1 (by kernel_rfl)
      | true =>
        cases d2 : inB a.Ino 2 1000 with
        | false =>
          rw [bad (entAt_2 hx d2)]
          unfold inB at d2
          simp only [go_sem, Nat.reduceLT, Nat.reduceAdd, Nat.reduceSub, Nat.reduceEqDiff, Nat.reduceLeDiff, Int.reduceEq, Int.reduceBEq, Int.reduceBNe, Int.reduceNeg, UInt8.reduceToNat, h1, hx, hc, d1, hin, d2] <;> exact chk1 (by kernel_rfl)
        | true =>
          by_cases h0 : j = 0
          · have e := entAt_0 hx h0
            rw [d1, d2] at e
            unfold inB at d2
            have hgt : ¬ ((j : Int) > 0) := by omega
            simp only [go_sem, Nat.reduceLT, Nat.reduceAdd, Nat.reduceSub, Nat.reduceEqDiff, Nat.reduceLeDiff, Int.reduceEq, Int.reduceBEq, Int.reduceBNe, Int.reduceNeg, UInt8.reduceToNat, h1, hx, hc, d1, hin, d2, hgt, wrap_succ hlt (by omega)]
            exact chk (by kernel_rfl) ⟨_, by omega, j + 1, hlt, rfl, step e, rfl⟩
          · have hgt : ((j : Int) > 0) := by omega
            have hy : x.Ents[j - 1]? = some x.Ents[j - 1] := List.getElem?_eq_getElem (by omega)
            generalize x.Ents[j - 1] = y at hy
            have e := entAt_s hx h0 hy
            rw [d1, d2] at e
            unfold inB at d2
            obtain ⟨j', hj'⟩ : ∃ j', j' = j - 1 := ⟨_, rfl⟩
            rw [← hj'] at hy
            have ws : IntKind.i64.wrap ((j : Int) - 1) = (j' : Int) := by rw [wrap_in (by omega) (by omega)]; omega
            cases d3 : lessB y.Name a.Name with
            | false =>
              rw [bad (by rw [e, d3]; rfl)]
              unfold lessB at d3
              simp only [go_sem, Nat.reduceLT, Nat.reduceAdd, Nat.reduceSub, Nat.reduceEqDiff, Nat.reduceLeDiff, Int.reduceEq, Int.reduceBEq, Int.reduceBNe, Int.reduceNeg, UInt8.reduceToNat, h1, hx, hc, d1, hin, d2, hgt, ws, hy, d3, wrap_succ hlt (by omega)] <;> exact chk1 (by kernel_rfl)
            | true =>
              have e' : entAt x.Ents j = true := by rw [e, d3]; rfl
              unfold lessB at d3
              simp only [go_sem, Nat.reduceLT, Nat.reduceAdd, Nat.reduceSub, Nat.reduceEqDiff, Nat.reduceLeDiff, Int.reduceEq, Int.reduceBEq, Int.reduceBNe, Int.reduceNeg, UInt8.reduceToNat, h1, hx, hc, d1, hin, d2, hgt, ws, hy, d3, wrap_succ hlt (by omega)]
              exact chk (by kernel_rfl) ⟨_, by omega, j + 1, hlt, rfl, step e', rfl⟩
    · have h1 : ¬ ((j : Int) < (x.Ents.length : Int)) := by omega
      obtain rfl : j = x.Ents.length := by omega
      have be : entsB x.Ents = true := by
        unfold entsB
        rw [allB_all hp, Bool.true_and]
        exact decide_eq_true (by omega)
      have e : inodeB x = (inB x.Links 0 1000 && ((x.Links == 0) == (x.Ino == 1)) && kindB x) := by
        unfold inodeB
        rw [b1', be, b6, show decide ((x.Data.length : Int) > 100) = false from decide_eq_false b4]
        simp
      rw [e]
      cases b2 : inB x.Links 0 1000 with
      | false =>
        unfold inB at b2
        simp only [go_sem, Nat.reduceLT, Nat.reduceAdd, Nat.reduceSub, Nat.reduceEqDiff, Nat.reduceLeDiff, Int.reduceEq, Int.reduceBEq, Int.reduceBNe, Int.reduceNeg, UInt8.reduceToNat, h1, hin, b2] <;> exact chk1 (by kernel_rfl)
      | true =>
        unfold inB at b2
        cases b3 : ((x.Links == 0) == (x.Ino == 1)) with
        | false =>
          simp only [go_sem, Nat.reduceLT, Nat.reduceAdd, Nat.reduceSub, Nat.reduceEqDiff, Nat.reduceLeDiff, Int.reduceEq, Int.reduceBEq, Int.reduceBNe, Int.reduceNeg, UInt8.reduceToNat, h1, hin, b2, b3] <;> exact chk1 (by kernel_rfl)
        | true =>
          cases c1 : (x.Kind == 1) with
          | true =>
            rw [kind_1 c1]
            simp only [go_sem, Nat.reduceLT, Nat.reduceAdd, Nat.reduceSub, Nat.reduceEqDiff, Nat.reduceLeDiff, Int.reduceEq, Int.reduceBEq, Int.reduceBNe, Int.reduceNeg, UInt8.reduceToNat, h1, hin, b2, b3, c1] <;> exact chk1 (by kernel_rfl)
          | false =>
            cases c2 : (x.Kind == 2) with
            | false =>
              rw [kind_3 c1 c2]
              simp only [go_sem, Nat.reduceLT, Nat.reduceAdd, Nat.reduceSub, Nat.reduceEqDiff, Nat.reduceLeDiff, Int.reduceEq, Int.reduceBEq, Int.reduceBNe, Int.reduceNeg, UInt8.reduceToNat, h1, hin, b2, b3, c1, c2] <;> exact chk1 (by kernel_rfl)
            | true =>
              rw [kind_2 c1 c2]
              cases c3 : ((x.Data.length : Int) == 0) with
              | false =>
                simp only [go_sem, Nat.reduceLT, Nat.reduceAdd, Nat.reduceSub, Nat.reduceEqDiff, Nat.reduceLeDiff, Int.reduceEq, Int.reduceBEq, Int.reduceBNe, Int.reduceNeg, UInt8.reduceToNat, h1, hin, b2, b3, c1, c2, c3] <;> exact chk1 (by kernel_rfl)
              | true =>
                simp only [go_sem, Nat.reduceLT, Nat.reduceAdd, Nat.reduceSub, Nat.reduceEqDiff, Nat.reduceLeDiff, Int.reduceEq, Int.reduceBEq, Int.reduceBNe, Int.reduceNeg, UInt8.reduceToNat, h1, hin, b2, b3, c1, c2, c3] <;> exact chk1 (by kernel_rfl)

end Go.Proofs.YticgilhndadkiaaGreatDoor.R
