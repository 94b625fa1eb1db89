/- The paths below a directory: the reference's walk. -/
import Derived.Test.YticgilhndadkiaaGreatDoorUr
set_option maxRecDepth 100000
set_option linter.unusedVariables false
set_option linter.unusedSimpArgs false
namespace Go.Proofs.YticgilhndadkiaaGreatDoor.R
open Go

set_option maxHeartbeats 4000000 in
theorem l7Paths_ok (t : TTab) (ht : t.ok) : ∀ (f : Nat), f ≤ 40 → ∀ (n : Nat), Big + (7 + f) ≤ n → ∀ (k : Int), Flat' t.Inodes f (own t.Inodes k) → ∀ (p : List UInt8), p.length + f * 1048577 ≤ 100000000 → ∀ (out : List (List UInt8)), out.length + (pathsN t.Inodes f (entsOf t.Inodes k) p).length ≤ 1000000 →
    pcall env n 46 [.c .agg (t.pv.map argC'), pvSV (.i .i64 k), pvSV (.t ⟨⟨p⟩⟩), .bp 0 0] [[.ow false 1 (out.map ppv)]] = some ⟨.c (.tup []) [], [[.ow false 1 ((out ++ pathsN t.Inodes f (entsOf t.Inodes k) p).map ppv)]]⟩ := by
  intro f
  induction f with
  | zero =>
    intro hf n hn k hfl p hp out hout
    obtain ⟨m, rfl⟩ := ex_pred hn
    have hB := big_bd
    have he : entsOf t.Inodes k = [] := by
      have := hfl.low
      simpa [lv, own] using this
    have hat := inodeAtSpec_ok m (by omega) t ht k
    simp only [go_sem] at hat
    unfold atC at hat
    refine wq_eq (wq_pcall (fn := Tryz.f46) rfl rfl rfl (Nat.le_of_ble_eq_true rfl) ?_)
    unfold Tryz.f46
    cases hno : nodeOf t.Inodes k with
    | none =>
      unfold nodeOf at hno
      rw [hno] at hat
      simp only [go_sem, nodeZ] at hat
      simp only [go_sem, Nat.reduceLT, Nat.reduceAdd, Nat.reduceSub, Nat.reduceEqDiff, Nat.reduceLeDiff, Int.reduceEq, Int.reduceBEq, Int.reduceBNe, Int.reduceNeg, UInt8.reduceToNat, Nat.reduceBEq, hat, pathsN]
      refine wq_loop_exit (by omega) ?_
      simp only [go_sem, Nat.reduceLT, Nat.reduceAdd, Nat.reduceSub, Nat.reduceEqDiff, Nat.reduceLeDiff, Int.reduceEq, Int.reduceBEq, Int.reduceBNe, Int.reduceNeg, UInt8.reduceToNat, Nat.reduceBEq, pathsN]
    | some x =>
      have hxe : x.Ents = [] := by
        unfold entsOf at he
        rw [hno] at he
        exact he
      unfold nodeOf at hno
      rw [hno] at hat
      simp only [go_sem, nodeC, hxe] at hat
      simp only [go_sem, Nat.reduceLT, Nat.reduceAdd, Nat.reduceSub, Nat.reduceEqDiff, Nat.reduceLeDiff, Int.reduceEq, Int.reduceBEq, Int.reduceBNe, Int.reduceNeg, UInt8.reduceToNat, Nat.reduceBEq, hat, pathsN]
      refine wq_loop_exit (by omega) ?_
      simp only [go_sem, Nat.reduceLT, Nat.reduceAdd, Nat.reduceSub, Nat.reduceEqDiff, Nat.reduceLeDiff, Int.reduceEq, Int.reduceBEq, Int.reduceBNe, Int.reduceNeg, UInt8.reduceToNat, Nat.reduceBEq, pathsN]
  | succ f ih =>
    intro hf n hn k hfl p hp out hout
    obtain ⟨m, rfl⟩ := ex_pred hn
    have hB := big_bd
    have hbd : Bd = 1048576 := rfl
    have hlim : LIM = 70368744177664 := rfl
    have hm : Big + (7 + f) ≤ m := by omega
    have hat := inodeAtSpec_ok m (by omega) t ht k
    simp only [go_sem] at hat
    unfold atC at hat
    refine wq_eq (wq_pcall (fn := Tryz.f46) rfl rfl rfl (Nat.le_of_ble_eq_true rfl) ?_)
    unfold Tryz.f46
    cases hno : nodeOf t.Inodes k with
    | none =>
      have he : entsOf t.Inodes k = [] := by unfold entsOf; rw [hno]
      have hnil : pathsN t.Inodes (f + 1) [] p = [] := by simp [pathsN]
      rw [he, hnil, List.append_nil]
      unfold nodeOf at hno
      rw [hno] at hat
      simp only [go_sem, nodeZ] at hat
      simp only [go_sem, Nat.reduceLT, Nat.reduceAdd, Nat.reduceSub, Nat.reduceEqDiff, Nat.reduceLeDiff, Int.reduceEq, Int.reduceBEq, Int.reduceBNe, Int.reduceNeg, UInt8.reduceToNat, Nat.reduceBEq, hat]
      refine wq_loop_exit (by omega) ?_
      simp only [go_sem, Nat.reduceLT, Nat.reduceAdd, Nat.reduceSub, Nat.reduceEqDiff, Nat.reduceLeDiff, Int.reduceEq, Int.reduceBEq, Int.reduceBNe, Int.reduceNeg, UInt8.reduceToNat, Nat.reduceBEq]
    | some x =>
      have he : entsOf t.Inodes k = x.Ents := by unfold entsOf; rw [hno]
      have hxo := ht.Inodes.1 _ (nodeOf_mem hno).1
      have hel := hxo.Ents.2
      unfold own at hfl
      rw [he] at hfl hout ⊢
      have hcn := hfl.cnt p
      unfold nodeOf at hno
      rw [hno] at hat
      simp only [go_sem, nodeC] at hat
      simp only [go_sem, Nat.reduceLT, Nat.reduceAdd, Nat.reduceSub, Nat.reduceEqDiff, Nat.reduceLeDiff, Int.reduceEq, Int.reduceBEq, Int.reduceBNe, Int.reduceNeg, UInt8.reduceToNat, Nat.reduceBEq, hat]
      refine wq_loop_at (fun r σ => ∃ i : Nat, i ≤ x.Ents.length ∧ r = x.Ents.length - i ∧ σ = slots 52 [(2, .c .one [.sh false (.t ⟨⟨p⟩⟩)]), (3, .bp 52 0), (4, .c .box [.sh true (.s 6 (t.Inodes.map TInode.pv)), .sh false (.i .i64 t.Next)]), (8, .c .box [.sh false (.i .i64 x.Ino), .sh false (.i .i64 x.Kind), .sh false (.i .i64 x.Links), .ow true 1 (x.Data.map bpv), .ow true 2 (x.Ents.map TEnt.pv), .ow true 2 (x.Attrs.map TAttr.pv)]), (10, .c .one [.sh false (.i .i64 (i : Nat))])] ++ [.c .box [.ow false 1 ((out ++ pathsN t.Inodes (f + 1) (x.Ents.take i) p).map ppv)]]) x.Ents.length (by omega) ?_ ?_
      · simp only [go_sem, Nat.reduceLT, Nat.reduceAdd, Nat.reduceSub, Nat.reduceEqDiff, Nat.reduceLeDiff, Int.reduceEq, Int.reduceBEq, Int.reduceBNe, Int.reduceNeg, UInt8.reduceToNat, Nat.reduceBEq]
        refine ⟨0, Nat.zero_le _, rfl, ?_⟩
        simp only [List.take_zero, pathsN, List.flatMap_nil, List.append_nil]
        rfl
      · rintro r σ ⟨i, hi, rfl, rfl⟩
        by_cases hlt : i < x.Ents.length
        · have h1 : ((i : Int) < (x.Ents.length : Int)) := by omega
          have hy : x.Ents[i]? = some x.Ents[i] := List.getElem?_eq_getElem hlt
          have hmem := List.getElem_mem hlt
          have heo := hxo.Ents.1 _ hmem
          generalize x.Ents[i] = e at hy hmem heo
          have htk : x.Ents.take (i + 1) = x.Ents.take i ++ [e] := by rw [List.take_add_one, hy]; rfl
          have hsn := paths_snoc t.Inodes f (x.Ents.take i) e p
          rw [← htk] at hsn
          have hle := paths_take (l := t.Inodes) (f := f) (es := x.Ents) (p := p) (i + 1)
          rw [hsn, List.length_append, List.length_cons] at hle
          have hdn := hfl.down (List.mem_map.2 ⟨e, hmem, rfl⟩ : e.Ino ∈ x.Ents.map (·.Ino))
          have hnl := heo.Name
          obtain ⟨⟨⟨nm⟩⟩, ino⟩ := e
          unfold okS at hnl
          simp only [size_lit] at hnl
          simp only [toList_mk] at hsn hle
          have hq : (p ++ [47] ++ nm).length + f * 1048577 ≤ 100000000 := by simp only [List.length_append, List.length_cons, List.length_nil]; omega
          have c1 : (((p.length + 1 : Nat) : Int) > IntKind.i64.max) = False := cat_ok (by omega)
          have c2 : (((p.length + 1 + nm.length : Nat) : Int) > IntKind.i64.max) = False := cat_ok (by omega)
          have l1 : (out.length + (pathsN t.Inodes (f + 1) (x.Ents.take i) p).length + 1) * 16 ≤ LIM := by omega
          have hrec := ih (by omega) m hm ino hdn (p ++ [47] ++ nm) hq ((out ++ pathsN t.Inodes (f + 1) (x.Ents.take i) p) ++ [p ++ [47] ++ nm]) (by simp only [List.length_append, List.length_cons, List.length_nil] at hle ⊢; omega)
          simp only [go_sem, List.map_append] at hrec
          simp only [go_sem, Nat.reduceLT, Nat.reduceAdd, Nat.reduceSub, Nat.reduceEqDiff, Nat.reduceLeDiff, Int.reduceEq, Int.reduceBEq, Int.reduceBNe, Int.reduceNeg, UInt8.reduceToNat, Nat.reduceBEq, h1, hy, cat_lit, size_lit, c1, c2, l1, List.map_append, hrec, wrap_succ hlt (by omega)]
          have hst : (pathsN t.Inodes (f + 1) (x.Ents.take (i + 1)) p).map ppv = (pathsN t.Inodes (f + 1) (x.Ents.take i) p).map ppv ++ [[.t ⟨⟨p ++ [47] ++ nm⟩⟩]] ++ (pathsN t.Inodes f (entsOf t.Inodes ino) (p ++ [47] ++ nm)).map ppv := by
            rw [hsn, List.map_append, List.map_cons]; simp only [List.append_assoc, List.cons_append, List.nil_append, ppv]
          refine chk (by kernel_rfl) ⟨_, by omega, i + 1, hlt, rfl, ?_⟩
          rw [hst]
          simp only [List.append_assoc]
        · have h1 : ¬ ((i : Int) < (x.Ents.length : Int)) := by omega
          obtain rfl : i = x.Ents.length := by omega
          rw [List.take_length]
          simp only [go_sem, Nat.reduceLT, Nat.reduceAdd, Nat.reduceSub, Nat.reduceEqDiff, Nat.reduceLeDiff, Int.reduceEq, Int.reduceBEq, Int.reduceBNe, Int.reduceNeg, UInt8.reduceToNat, Nat.reduceBEq, h1]

end Go.Proofs.YticgilhndadkiaaGreatDoor.R
