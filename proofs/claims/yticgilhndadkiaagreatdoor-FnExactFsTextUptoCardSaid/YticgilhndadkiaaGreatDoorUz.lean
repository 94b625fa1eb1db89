/- The list of what lies in a tree: the program's walk. -/
import Derived.Test.YticgilhndadkiaaGreatDoorUy
set_option maxRecDepth 100000
set_option linter.unusedVariables false
set_option linter.unusedSimpArgs false
namespace Go.Proofs.YticgilhndadkiaaGreatDoor.R
open Go

set_option maxHeartbeats 8000000 in
theorem dumpImpl_ok (n : Nat) (hn : Big + 41 ≤ n) (t : TTab) (ht : t.ok) : ∃ fl, pcall env n 19 [.c .agg (t.pv.map argC')] [] = some ⟨.c .one [.ow fl 5 ((dumpL t).map TEntry.pv)], []⟩ := by
  obtain ⟨m, rfl⟩ := ex_pred hn
  have hB := big_bd
  have hbd : Bd = 1048576 := rfl
  have hlim : LIM = 70368744177664 := rfl
  have hpt := pathsImpl_ok m (by omega) t ht
  simp only [go_sem] at hpt
  have hlen := pathsT_len t
  have hsz := fun q (hq : q ∈ pathsT t) => path_size hq
  have htr := fun q (hq : q ∈ pathsT t) => tree_ne hq
  unfold dumpL
  generalize pathsT t = ps at hpt hlen hsz htr ⊢
  suffices h : @Wq _ (pcall env (m + 1) 19 [.c .agg (t.pv.map argC')] []) ⟨fun r => ∃ fl, r = ⟨.c .one [.ow fl 5 ((ps.map (entryP t.Inodes ps)).map TEntry.pv)], []⟩⟩ by
    obtain ⟨r, h1, fl, h2⟩ := h; exact ⟨fl, by rw [h1, h2]⟩
  refine wq_pcall (fn := Tryz.f19) rfl rfl rfl (Nat.le_of_ble_eq_true rfl) ?_
  unfold Tryz.f19
  simp only [go_sem, Nat.reduceLT, Nat.reduceAdd, Nat.reduceSub, Nat.reduceEqDiff, Nat.reduceLeDiff, Int.reduceEq, Int.reduceBEq, Int.reduceBNe, Int.reduceNeg, UInt8.reduceToNat, Nat.reduceBEq, hpt, Nat.zero_mul, Nat.zero_le]
  refine wq_loop_at (fun r σ => ∃ (i : Nat) (fl : Bool), i ≤ ps.length ∧ r = ps.length - i ∧ σ = slots 62 [(1, .c .box [.sh true (.s 6 (t.Inodes.map TInode.pv)), .sh false (.i .i64 t.Next)]), (3, .c .one [.ow fl 5 (((ps.take i).map (entryP t.Inodes ps)).map TEntry.pv)]), (15, .c .one [.ow false 1 (ps.map ppv)]), (16, .c .one [.sh false (.i .i64 (ps.length : Nat))]), (17, .c .one [.sh false (.i .i64 (i : Nat))])]) ps.length (by omega) ?_ ?_
  · simp only [go_sem, Nat.reduceLT, Nat.reduceAdd, Nat.reduceSub, Nat.reduceEqDiff, Nat.reduceLeDiff, Int.reduceEq, Int.reduceBEq, Int.reduceBNe, Int.reduceNeg, UInt8.reduceToNat, Nat.reduceBEq]
    exact ⟨0, false, Nat.zero_le _, rfl, rfl⟩
  · rintro r σ ⟨i, fl, hi, rfl, rfl⟩
    by_cases hlt : i < ps.length
    · have h1 : ((i : Int) < (ps.length : Int)) := by omega
      have hx : ps[i]? = some ps[i] := List.getElem?_eq_getElem hlt
      have hT := htr _ (List.getElem_mem hlt)
      have hq := hsz _ (List.getElem_mem hlt)
      generalize ps[i] = p at hx hq
      have hst := statImpl_ok m (by omega) t ht p (by omega)
      simp only [go_sem] at hst
      have hds := dump_step (l := t.Inodes) hx
      have htl : (ps.take i).length = i := by rw [List.length_take]; omega
      have l1 : ((ps.take i).length + 1) * 88 ≤ LIM := by rw [htl]; omega
      rcases stat_cases t.Inodes p with ⟨c, hs1, hs2⟩ | ⟨x, hs2, hs1⟩
      · rw [hs1] at hst
        simp only [go_sem, nodeZ] at hst
        simp only [go_sem, Nat.reduceLT, Nat.reduceAdd, Nat.reduceSub, Nat.reduceEqDiff, Nat.reduceLeDiff, Int.reduceEq, Int.reduceBEq, Int.reduceBNe, Int.reduceNeg, UInt8.reduceToNat, Nat.reduceBEq, h1, hx, hst]
        refine wq_loop_at (fun r' σ => ∃ j : Nat, j ≤ i ∧ r' = i - j ∧ (∀ (a : Nat) (q : List UInt8), a < j → ps[a]? = some q → ((walkP t.Inodes q).1 == 0) = false) ∧ σ = slots 62 [(1, .c .box [.sh true (.s 6 (t.Inodes.map TInode.pv)), .sh false (.i .i64 t.Next)]), (3, .c .one [.ow fl 5 (((ps.take i).map (entryP t.Inodes ps)).map TEntry.pv)]), (5, .c .one [.sh false (.t ⟨⟨p⟩⟩)]), (6, .c .box [.sh false (.i .i64 0), .sh false (.i .i64 0), .sh false (.i .i64 0), .ow false 1 [], .ow false 2 [], .ow false 2 []]), (8, .c .one [.sh false (.t ⟨⟨p⟩⟩)]), (15, .c .one [.ow false 1 (ps.map ppv)]), (16, .c .one [.sh false (.i .i64 (ps.length : Nat))]), (17, .c .one [.sh false (.i .i64 (i : Nat))]), (28, .c .one [.br 3 0 0 0 fl 5 (((ps.take i).map (entryP t.Inodes ps)).map TEntry.pv)]), (29, .c .one [.sh false (.i .i64 (i : Nat))]), (30, .c .one [.sh false (.i .i64 (j : Nat))])]) i (by omega) ?_ ?_
        · simp only [go_sem, Nat.reduceLT, Nat.reduceAdd, Nat.reduceSub, Nat.reduceEqDiff, Nat.reduceLeDiff, Int.reduceEq, Int.reduceBEq, Int.reduceBNe, Int.reduceNeg, UInt8.reduceToNat, Nat.reduceBEq, htl]
          exact ⟨0, Nat.zero_le _, rfl, fun i y hi => absurd hi (Nat.not_lt_zero _), rfl⟩
        · rintro r' σ ⟨j, hj, rfl, hpr, rfl⟩
          by_cases hlt2 : j < i
          · have h2 : ((j : Int) < (i : Int)) := by omega
            have hjl : j < ps.length := by omega
            have hxj : ps[j]? = some ps[j] := List.getElem?_eq_getElem hjl
            have hqs := hsz _ (List.getElem_mem hjl)
            generalize ps[j] = q at hxj hqs
            have hxt : (ps.take i)[j]? = some q := by rw [List.getElem?_take_of_lt hlt2, hxj]
            have hw := walkImpl_ok m (by omega) t ht q (by omega)
            simp only [go_sem, tup2] at hw
            cases ha : ((walkP t.Inodes q).1 == 0) with
            | true =>
              have hfq : firstP t.Inodes ps (stI t.Inodes q).Ino = firstP t.Inodes ps (stI t.Inodes p).Ino := first_same hT (by rw [hs2]; exact ha)
              simp only [go_sem, Nat.reduceLT, Nat.reduceAdd, Nat.reduceSub, Nat.reduceEqDiff, Nat.reduceLeDiff, Int.reduceEq, Int.reduceBEq, Int.reduceBNe, Int.reduceNeg, UInt8.reduceToNat, Nat.reduceBEq, h2, hxt, hw, ha, entryP, l1]
              have he : (entryP t.Inodes ps p).pv = [.t ⟨⟨p⟩⟩, .i .i64 0, .s 1 [], .s 2 [], .t ⟨⟨firstP t.Inodes ps (stI t.Inodes q).Ino⟩⟩] := by unfold entryP; rw [← hfq, hs2]; rfl
              refine ⟨_, by omega, i + 1, fl, hlt, rfl, ?_⟩
              rw [hds, he, wrap_succ hlt (by omega)]
            | false =>
              simp only [go_sem, Nat.reduceLT, Nat.reduceAdd, Nat.reduceSub, Nat.reduceEqDiff, Nat.reduceLeDiff, Int.reduceEq, Int.reduceBEq, Int.reduceBNe, Int.reduceNeg, UInt8.reduceToNat, Nat.reduceBEq, h2, hxt, hw, ha, entryP, wrap_succ hlt2 (by omega)]
              refine ⟨_, by omega, j + 1, hlt2, rfl, fun a y hi hy => ?_, by with_reducible rfl⟩
              rcases Nat.lt_succ_iff_lt_or_eq.1 hi with h | h
              · exact hpr a y h hy
              · subst h; rw [hxj] at hy; injection hy with hy; subst hy; exact ha
          · have h2 : ¬ ((j : Int) < (i : Int)) := by omega
            obtain rfl : j = i := by omega
            have hfp : firstP t.Inodes ps (stI t.Inodes p).Ino = p := first_at hT hx (by rw [hs2]; exact hpr)
            simp only [go_sem, Nat.reduceLT, Nat.reduceAdd, Nat.reduceSub, Nat.reduceEqDiff, Nat.reduceLeDiff, Int.reduceEq, Int.reduceBEq, Int.reduceBNe, Int.reduceNeg, UInt8.reduceToNat, Nat.reduceBEq, h2, l1]
            have he : (entryP t.Inodes ps p).pv = [.t ⟨⟨p⟩⟩, .i .i64 0, .s 1 [], .s 2 [], .t ⟨⟨p⟩⟩] := by unfold entryP; rw [hfp, hs2]; rfl
            refine ⟨_, by omega, j + 1, fl, hlt, rfl, ?_⟩
            rw [hds, he, wrap_succ hlt (by omega)]
      · rw [hs1] at hst
        simp only [go_sem, nodeC] at hst
        simp only [go_sem, Nat.reduceLT, Nat.reduceAdd, Nat.reduceSub, Nat.reduceEqDiff, Nat.reduceLeDiff, Int.reduceEq, Int.reduceBEq, Int.reduceBNe, Int.reduceNeg, UInt8.reduceToNat, Nat.reduceBEq, h1, hx, hst]
        refine wq_loop_at (fun r' σ => ∃ j : Nat, j ≤ i ∧ r' = i - j ∧ (∀ (a : Nat) (q : List UInt8), a < j → ps[a]? = some q → ((walkP t.Inodes q).1 == x.Ino) = false) ∧ σ = slots 62 [(1, .c .box [.sh true (.s 6 (t.Inodes.map TInode.pv)), .sh false (.i .i64 t.Next)]), (3, .c .one [.ow fl 5 (((ps.take i).map (entryP t.Inodes ps)).map TEntry.pv)]), (5, .c .one [.sh false (.t ⟨⟨p⟩⟩)]), (6, .c .box [.sh false (.i .i64 x.Ino), .sh false (.i .i64 x.Kind), .sh false (.i .i64 x.Links), .ow true 1 (x.Data.map bpv), .ow true 2 (x.Ents.map TEnt.pv), .ow true 2 (x.Attrs.map TAttr.pv)]), (8, .c .one [.sh false (.t ⟨⟨p⟩⟩)]), (15, .c .one [.ow false 1 (ps.map ppv)]), (16, .c .one [.sh false (.i .i64 (ps.length : Nat))]), (17, .c .one [.sh false (.i .i64 (i : Nat))]), (28, .c .one [.br 3 0 0 0 fl 5 (((ps.take i).map (entryP t.Inodes ps)).map TEntry.pv)]), (29, .c .one [.sh false (.i .i64 (i : Nat))]), (30, .c .one [.sh false (.i .i64 (j : Nat))])]) i (by omega) ?_ ?_
        · simp only [go_sem, Nat.reduceLT, Nat.reduceAdd, Nat.reduceSub, Nat.reduceEqDiff, Nat.reduceLeDiff, Int.reduceEq, Int.reduceBEq, Int.reduceBNe, Int.reduceNeg, UInt8.reduceToNat, Nat.reduceBEq, htl]
          exact ⟨0, Nat.zero_le _, rfl, fun i y hi => absurd hi (Nat.not_lt_zero _), rfl⟩
        · rintro r' σ ⟨j, hj, rfl, hpr, rfl⟩
          by_cases hlt2 : j < i
          · have h2 : ((j : Int) < (i : Int)) := by omega
            have hjl : j < ps.length := by omega
            have hxj : ps[j]? = some ps[j] := List.getElem?_eq_getElem hjl
            have hqs := hsz _ (List.getElem_mem hjl)
            generalize ps[j] = q at hxj hqs
            have hxt : (ps.take i)[j]? = some q := by rw [List.getElem?_take_of_lt hlt2, hxj]
            have hw := walkImpl_ok m (by omega) t ht q (by omega)
            simp only [go_sem, tup2] at hw
            cases ha : ((walkP t.Inodes q).1 == x.Ino) with
            | true =>
              have hfq : firstP t.Inodes ps (stI t.Inodes q).Ino = firstP t.Inodes ps (stI t.Inodes p).Ino := first_same hT (by rw [← hs2]; exact ha)
              simp only [go_sem, Nat.reduceLT, Nat.reduceAdd, Nat.reduceSub, Nat.reduceEqDiff, Nat.reduceLeDiff, Int.reduceEq, Int.reduceBEq, Int.reduceBNe, Int.reduceNeg, UInt8.reduceToNat, Nat.reduceBEq, h2, hxt, hw, ha, entryP, l1]
              have he : (entryP t.Inodes ps p).pv = [.t ⟨⟨p⟩⟩, .i .i64 x.Kind, .s 1 (x.Data.map bpv), .s 2 (x.Attrs.map TAttr.pv), .t ⟨⟨firstP t.Inodes ps (stI t.Inodes q).Ino⟩⟩] := by unfold entryP; rw [← hfq, ← hs2]; rfl
              refine ⟨_, by omega, i + 1, true, hlt, rfl, ?_⟩
              rw [hds, he, wrap_succ hlt (by omega)]
            | false =>
              simp only [go_sem, Nat.reduceLT, Nat.reduceAdd, Nat.reduceSub, Nat.reduceEqDiff, Nat.reduceLeDiff, Int.reduceEq, Int.reduceBEq, Int.reduceBNe, Int.reduceNeg, UInt8.reduceToNat, Nat.reduceBEq, h2, hxt, hw, ha, entryP, wrap_succ hlt2 (by omega)]
              refine ⟨_, by omega, j + 1, hlt2, rfl, fun a y hi hy => ?_, by with_reducible rfl⟩
              rcases Nat.lt_succ_iff_lt_or_eq.1 hi with h | h
              · exact hpr a y h hy
              · subst h; rw [hxj] at hy; injection hy with hy; subst hy; exact ha
          · have h2 : ¬ ((j : Int) < (i : Int)) := by omega
            obtain rfl : j = i := by omega
            have hfp : firstP t.Inodes ps (stI t.Inodes p).Ino = p := first_at hT hx (by rw [← hs2]; exact hpr)
            simp only [go_sem, Nat.reduceLT, Nat.reduceAdd, Nat.reduceSub, Nat.reduceEqDiff, Nat.reduceLeDiff, Int.reduceEq, Int.reduceBEq, Int.reduceBNe, Int.reduceNeg, UInt8.reduceToNat, Nat.reduceBEq, h2, l1]
            have he : (entryP t.Inodes ps p).pv = [.t ⟨⟨p⟩⟩, .i .i64 x.Kind, .s 1 (x.Data.map bpv), .s 2 (x.Attrs.map TAttr.pv), .t ⟨⟨p⟩⟩] := by unfold entryP; rw [hfp, ← hs2]; rfl
            refine ⟨_, by omega, j + 1, true, hlt, rfl, ?_⟩
            rw [hds, he, wrap_succ hlt (by omega)]
    · have h1 : ¬ ((i : Int) < (ps.length : Int)) := by omega
      obtain rfl : i = ps.length := by omega
      rw [List.take_length]
      simp only [go_sem, Nat.reduceLT, Nat.reduceAdd, Nat.reduceSub, Nat.reduceEqDiff, Nat.reduceLeDiff, Int.reduceEq, Int.reduceBEq, Int.reduceBNe, Int.reduceNeg, UInt8.reduceToNat, Nat.reduceBEq, h1]
      exact ⟨fl, rfl⟩

end Go.Proofs.YticgilhndadkiaaGreatDoor.R
