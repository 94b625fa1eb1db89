/- The inodes that are reached: the program's walk. -/
import Derived.Test.YticgilhndadkiaaGreatDoorUh
set_option maxRecDepth 100000
set_option linter.unusedVariables false
set_option linter.unusedSimpArgs false
namespace Go.Proofs.YticgilhndadkiaaGreatDoor.R
open Go

theorem sortInt_perm (l : List Int) : (sortInts l).Perm l := List.mergeSort_perm l _
theorem sortInt_len (l : List Int) : (sortInts l).length = l.length := (sortInt_perm l).length_eq
theorem ints_map : ∀ l : List Int, ints? (l.map ipv) = some l
  | [] => rfl
  | n :: l => by simp [ints?, ipv, ints_map l]
theorem take_map_len {α β : Type} {l : List α} {f : α → β} : (l.map f).take l.length = l.map f := by
  rw [← List.length_map (f := f), List.take_length]
/-- A small table: what TabOk asks for. -/
structure Small (t : TTab) : Prop where
  n : t.Inodes.length ≤ 30
  e : ∀ x ∈ t.Inodes, x.Ents.length ≤ 10

set_option maxHeartbeats 4000000 in
theorem reachedImpl_ok (n : Nat) (hn : Big + 8 ≤ n) (t : TTab) (ht : t.ok) (hs : Small t) : ∃ L : List Int, Full t.Inodes L ∧ L.length ≤ 1000 ∧ pcall env n 74 [.c .agg (t.pv.map argC')] [] = some ⟨.c .one [.ow false 1 (L.map ipv)], []⟩ := by
  obtain ⟨m, rfl⟩ := ex_pred hn
  have hB := big_bd
  have hbd : Bd = 1048576 := rfl
  have hl := hs.n
  have hlim : LIM = 70368744177664 := rfl
  suffices h : @Wq _ (pcall env (m + 1) 74 [.c .agg (t.pv.map argC')] []) ⟨fun r => ∃ L : List Int, Full t.Inodes L ∧ L.length ≤ 1000 ∧ r = ⟨.c .one [.ow false 1 (L.map ipv)], []⟩⟩ by
    obtain ⟨r, h1, L, h2, h3, h4⟩ := h; exact ⟨L, h2, h3, by rw [h1, h4]⟩
  refine wq_pcall (fn := Tryz.f74) rfl rfl rfl (Nat.le_of_ble_eq_true rfl) ?_
  unfold Tryz.f74
  simp only [go_sem, Nat.reduceLT, Nat.reduceAdd, Nat.reduceSub, Nat.reduceEqDiff, Nat.reduceLeDiff, Int.reduceEq, Int.reduceBEq, Int.reduceBNe, Int.reduceNeg, UInt8.reduceToNat, Nat.reduceBEq]
  refine wq_loop_at (fun r σ => ∃ out next : List Int, Bfs t.Inodes out next ∧ next.length + remL t.Inodes out ≤ r ∧ out.length + next.length + remL t.Inodes out ≤ 301 ∧ σ = slots 56 [(1, .c .box [.sh true (.s 6 (t.Inodes.map TInode.pv)), .sh false (.i .i64 t.Next)]), (3, .c .one [.ow false 1 (out.map ipv)]), (4, .c .one [.ow false 1 (next.map ipv)])]) (301) (by omega) ?_ ?_
  · simp only [go_sem, Nat.reduceLT, Nat.reduceAdd, Nat.reduceSub, Nat.reduceEqDiff, Nat.reduceLeDiff, Int.reduceEq, Int.reduceBEq, Int.reduceBNe, Int.reduceNeg, UInt8.reduceToNat, Nat.reduceBEq]
    refine ⟨[], [1], .start _, ?_, ?_, rfl⟩ <;> (have := rem_bd hs.e []; simp only [List.length_cons, List.length_nil] at this ⊢; omega)
  · rintro r σ ⟨out, next, hb, hr, hsum, rfl⟩
    cases next with
    | nil =>
      simp only [List.length_nil] at hsum
      have hf := hb.full
      by_cases hz : out.length = 0
      · simp only [go_sem, Nat.reduceLT, Nat.reduceAdd, Nat.reduceSub, Nat.reduceEqDiff, Nat.reduceLeDiff, Int.reduceEq, Int.reduceBEq, Int.reduceBNe, Int.reduceNeg, UInt8.reduceToNat, Nat.reduceBEq, sortIntOrc, ints_map]
        refine bq_pos (by omega) ?_
        simp only [go_sem, Nat.reduceLT, Nat.reduceAdd, Nat.reduceSub, Nat.reduceEqDiff, Nat.reduceLeDiff, Int.reduceEq, Int.reduceBEq, Int.reduceBNe, Int.reduceNeg, UInt8.reduceToNat, Nat.reduceBEq, hz]
        exact ⟨out, hf, by omega, rfl⟩
      · simp only [go_sem, Nat.reduceLT, Nat.reduceAdd, Nat.reduceSub, Nat.reduceEqDiff, Nat.reduceLeDiff, Int.reduceEq, Int.reduceBEq, Int.reduceBNe, Int.reduceNeg, UInt8.reduceToNat, Nat.reduceBEq, sortIntOrc, ints_map]
        refine bq_pos (by omega) ?_
        simp only [go_sem, Nat.reduceLT, Nat.reduceAdd, Nat.reduceSub, Nat.reduceEqDiff, Nat.reduceLeDiff, Int.reduceEq, Int.reduceBEq, Int.reduceBNe, Int.reduceNeg, UInt8.reduceToNat, Nat.reduceBEq, hz, sortInt_len]
        exact ⟨sortInts out, hf.perm (sortInt_perm out), by rw [sortInt_len]; omega, rfl⟩
    | cons k next =>
      have h1 : ((next.length + 1 : Nat) : Int) > 0 := by omega
      have hat := inodeAtImpl_ok m (deep hn (by decide)) t ht k
      have hct := containsInt_ok m (deep hn (by decide)) out (by simp only [List.length_cons] at hsum; omega) k
      simp only [go_sem] at hat hct
      unfold atC at hat
      have h2 : (1 : Int) ≤ ((next.length + 1 : Nat) : Int) := by omega
      simp only [List.length_cons] at hr hsum
      cases hf : nodeOf t.Inodes k with
      | none =>
        have hf' := hf
        unfold nodeOf at hf
        rw [hf] at hat
        simp only [go_sem, nodeZ] at hat
        simp only [go_sem, Nat.reduceLT, Nat.reduceAdd, Nat.reduceSub, Nat.reduceEqDiff, Nat.reduceLeDiff, Int.reduceEq, Int.reduceBEq, Int.reduceBNe, Int.reduceNeg, UInt8.reduceToNat, Nat.reduceBEq, h1, h2, hat, take_map_len, ipv]
        exact ⟨r - 1, by omega, out, next, hb.skip (fun e => by rw [hf'] at e; simp at e), by omega, by omega, rfl⟩
      | some x =>
        have hf' := hf
        obtain ⟨hmem, hino⟩ := nodeOf_mem hf
        have hel := hs.e x hmem
        unfold nodeOf at hf
        rw [hf] at hat
        simp only [go_sem, nodeC] at hat
        cases hh : hasB out k with
        | true =>
          simp only [go_sem, Nat.reduceLT, Nat.reduceAdd, Nat.reduceSub, Nat.reduceEqDiff, Nat.reduceLeDiff, Int.reduceEq, Int.reduceBEq, Int.reduceBNe, Int.reduceNeg, UInt8.reduceToNat, Nat.reduceBEq, h1, h2, hat, take_map_len, ipv, hct, hh]
          exact ⟨r - 1, by omega, out, next, hb.skip (fun _ => hh), by omega, by omega, rfl⟩
        | false =>
          have hrem := rem_lt hmem (by rw [hino]; exact hh)
          rw [hino] at hrem
          have hlm : (out.length + 1) * 8 ≤ LIM := by omega
          cases hk : (x.Kind == 2) with
          | false =>
            have hkid : kidsOf x = [] := by unfold kidsOf; rw [hk]
            have htk := hb.take hf' hh
            rw [hkid, List.append_nil] at htk
            simp only [go_sem, Nat.reduceLT, Nat.reduceAdd, Nat.reduceSub, Nat.reduceEqDiff, Nat.reduceLeDiff, Int.reduceEq, Int.reduceBEq, Int.reduceBNe, Int.reduceNeg, UInt8.reduceToNat, Nat.reduceBEq, h1, h2, hat, take_map_len, ipv, hct, hh, hlm, hk]
            refine ⟨r - 1, by omega, out ++ [k], next, htk, by omega, by simp only [List.length_append, List.length_cons, List.length_nil]; omega, ?_⟩
            rw [List.map_append]; rfl
          | true =>
            have hkid : kidsOf x = x.Ents.map (·.Ino) := by unfold kidsOf; rw [hk]
            have htk := hb.take hf' hh
            rw [hkid] at htk
            simp only [go_sem, Nat.reduceLT, Nat.reduceAdd, Nat.reduceSub, Nat.reduceEqDiff, Nat.reduceLeDiff, Int.reduceEq, Int.reduceBEq, Int.reduceBNe, Int.reduceNeg, UInt8.reduceToNat, Nat.reduceBEq, h1, h2, hat, take_map_len, ipv, hct, hh, hlm, hk]
            refine wq_loop_at (fun r' σ => ∃ i : Nat, i ≤ x.Ents.length ∧ r' = x.Ents.length - i ∧ σ = slots 56 [(1, .c .box [.sh true (.s 6 (t.Inodes.map TInode.pv)), .sh false (.i .i64 t.Next)]), (3, .c .one [.ow false 1 (out.map ipv ++ [[.i .i64 k]])]), (4, .c .one [.ow false 1 ((next ++ (x.Ents.take i).map (·.Ino)).map ipv)]), (6, .c .box [.sh false (.i .i64 x.Ino), .sh false (.i .i64 x.Kind), .sh false (.i .i64 x.Links), .ow true 1 (x.Data.map bpv), .ow true 2 (x.Ents.map TEnt.pv), .ow true 2 (x.Attrs.map TAttr.pv)]), (41, .c .one [.br 6 4 0 0 true 2 (x.Ents.map TEnt.pv)]), (42, .c .one [.sh false (.i .i64 (x.Ents.length : Nat))]), (43, .c .one [.sh false (.i .i64 (i : Nat))])]) x.Ents.length (by omega) ?_ ?_
            · simp only [go_sem, Nat.reduceLT, Nat.reduceAdd, Nat.reduceSub, Nat.reduceEqDiff, Nat.reduceLeDiff, Int.reduceEq, Int.reduceBEq, Int.reduceBNe, Int.reduceNeg, UInt8.reduceToNat, Nat.reduceBEq]
              exact ⟨0, Nat.zero_le _, rfl, by simp only [List.take_zero, List.map_nil, List.append_nil]; rfl⟩
            · rintro r' σ ⟨i, hi, rfl, rfl⟩
              by_cases hlt : i < x.Ents.length
              · have h3 : ((i : Int) < (x.Ents.length : Int)) := by omega
                have hy : x.Ents[i]? = some x.Ents[i] := List.getElem?_eq_getElem hlt
                generalize x.Ents[i] = e at hy
                have hlm2 : (next.length + (x.Ents.take i).length + 1) * 8 ≤ LIM := by
                  rw [List.length_take]; omega
                simp only [go_sem, Nat.reduceLT, Nat.reduceAdd, Nat.reduceSub, Nat.reduceEqDiff, Nat.reduceLeDiff, Int.reduceEq, Int.reduceBEq, Int.reduceBNe, Int.reduceNeg, UInt8.reduceToNat, Nat.reduceBEq, h3, hy, hlm2, wrap_succ hlt (by omega)]
                refine ⟨_, by omega, i + 1, hlt, rfl, ?_⟩
                rw [List.take_add_one, hy]
                simp only [Option.toList_some, List.map_append, List.map_cons, List.map_nil, List.append_assoc, ipv]
              · have h3 : ¬ ((i : Int) < (x.Ents.length : Int)) := by omega
                obtain rfl : i = x.Ents.length := by omega
                rw [List.take_length]
                simp only [go_sem, Nat.reduceLT, Nat.reduceAdd, Nat.reduceSub, Nat.reduceEqDiff, Nat.reduceLeDiff, Int.reduceEq, Int.reduceBEq, Int.reduceBNe, Int.reduceNeg, UInt8.reduceToNat, Nat.reduceBEq, h3]
                refine ⟨r - 1, by omega, out ++ [k], next ++ x.Ents.map (·.Ino), htk, ?_, ?_, ?_⟩
                · simp only [List.length_append, List.length_map]; omega
                · simp only [List.length_append, List.length_map, List.length_cons, List.length_nil]; omega
                · rw [List.map_append (l₁ := out)]; rfl
end Go.Proofs.YticgilhndadkiaaGreatDoor.R
