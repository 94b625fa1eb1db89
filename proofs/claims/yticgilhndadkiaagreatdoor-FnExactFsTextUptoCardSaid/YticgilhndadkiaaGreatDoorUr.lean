/- The paths below a directory: the program's walk. -/
import Derived.Test.YticgilhndadkiaaGreatDoorUq
set_option maxRecDepth 100000
set_option linter.unusedVariables false
set_option linter.unusedSimpArgs false
namespace Go.Proofs.YticgilhndadkiaaGreatDoor.R
open Go

theorem paths_snoc (l : List TInode) (f : Nat) (es : List TEnt) (e : TEnt) (p : List UInt8) : pathsN l (f + 1) (es ++ [e]) p = pathsN l (f + 1) es p ++ ((p ++ [47] ++ e.Name.toList) :: pathsN l f (entsOf l e.Ino) (p ++ [47] ++ e.Name.toList)) := by
  simp [pathsN]
theorem paths_take {l : List TInode} {f : Nat} {es : List TEnt} {p : List UInt8} (i : Nat) : (pathsN l (f + 1) (es.take i) p).length ≤ (pathsN l (f + 1) es p).length := by
  have : pathsN l (f + 1) es p = pathsN l (f + 1) (es.take i) p ++ pathsN l (f + 1) (es.drop i) p := by
    simp only [pathsN]
    rw [← List.flatMap_append, List.take_append_drop]
  rw [this, List.length_append]; omega
theorem lv_flat_le {l : List TInode} {k : Nat} {s : List Int} {d : Int} (hd : d ∈ s) : (lv l k [d]).length ≤ (lv l k s).length := by
  obtain ⟨a, b, rfl⟩ := List.append_of_mem hd
  rw [show a ++ d :: b = a ++ ([d] ++ b) from rfl, lv_append, lv_append, List.length_append, List.length_append]; omega
theorem Flat'.down {l : List TInode} {f : Nat} {s : List Int} (h : Flat' l (f + 1) s) {d : Int} (hd : d ∈ s) : Flat' l f (own l d) := by
  have h1 : ∀ k, lv l (k + 1) [d] = lv l k (own l d) := fun k => by simp only [lv, List.flatMap_cons, List.flatMap_nil, List.append_nil]
  refine ⟨?_, fun k => ?_⟩
  · rw [← h1]; exact lv_mem h.low hd
  · rw [← h1]; exact Nat.le_trans (lv_flat_le hd) (h.wide (k + 1))
theorem Flat'.cnt {l : List TInode} {f : Nat} {es : List TEnt} (h : Flat' l f (es.map (·.Ino))) (p : List UInt8) : (pathsN l f es p).length ≤ f * 300 := by
  rw [paths_len]; exact cnt_le l f _ h.wide
def zeroI : TInode := ⟨0, 0, 0, [], [], []⟩
theorem zeroI_ok : zeroI.ok := ⟨by unfold inR zeroI; decide, by unfold inR zeroI; decide, by unfold inR zeroI; decide, ⟨fun y hy => by simp [zeroI] at hy, Nat.zero_le _⟩, ⟨fun y hy => by simp [zeroI] at hy, Nat.zero_le _⟩, ⟨fun y hy => by simp [zeroI] at hy, Nat.zero_le _⟩⟩
theorem toList_mk (nm : List UInt8) : ByteArray.toList ⟨⟨nm⟩⟩ = nm := tl_lit

set_option maxHeartbeats 4000000 in
theorem below_ok (t : TTab) (ht : t.ok) : ∀ (f : Nat), f ≤ 40 → ∀ (n : Nat), Big + (7 + f) ≤ n → ∀ (x : TInode), x.ok → Flat' t.Inodes f (x.Ents.map (·.Ino)) → ∀ (p : List UInt8), p.length + f * 1048577 ≤ 100000000 →
    pcall env n 55 [.c .agg (t.pv.map argC'), .c .agg (x.pv.map argC'), pvSV (.t ⟨⟨p⟩⟩)] [] = some ⟨.c .one [.ow false 1 ((pathsN t.Inodes f x.Ents p).map ppv)], []⟩ := by
  intro f
  induction f with
  | zero =>
    intro hf n hn x hx hfl p hp
    obtain ⟨m, rfl⟩ := ex_pred hn
    have hB := big_bd
    have he : x.Ents = [] := by
      have := hfl.low
      simpa [lv] using this
    refine wq_eq (wq_pcall (fn := Tryz.f55) rfl rfl rfl (Nat.le_of_ble_eq_true rfl) ?_)
    unfold Tryz.f55
    simp only [go_sem, Nat.reduceLT, Nat.reduceAdd, Nat.reduceSub, Nat.reduceEqDiff, Nat.reduceLeDiff, Int.reduceEq, Int.reduceBEq, Int.reduceBNe, Int.reduceNeg, UInt8.reduceToNat, Nat.reduceBEq, he]
    refine wq_loop_exit (by omega) ?_
    simp only [go_sem, Nat.reduceLT, Nat.reduceAdd, Nat.reduceSub, Nat.reduceEqDiff, Nat.reduceLeDiff, Int.reduceEq, Int.reduceBEq, Int.reduceBNe, Int.reduceNeg, UInt8.reduceToNat, Nat.reduceBEq, he, pathsN]
  | succ f ih =>
    intro hf n hn x hx hfl p hp
    obtain ⟨m, rfl⟩ := ex_pred hn
    have hB := big_bd
    have hbd : Bd = 1048576 := rfl
    have hlim : LIM = 70368744177664 := rfl
    have hel := hx.Ents.2
    have hcn := hfl.cnt p
    have hm : Big + (7 + f) ≤ m := by omega
    refine wq_eq (wq_pcall (fn := Tryz.f55) rfl rfl rfl (Nat.le_of_ble_eq_true rfl) ?_)
    unfold Tryz.f55
    simp only [go_sem, Nat.reduceLT, Nat.reduceAdd, Nat.reduceSub, Nat.reduceEqDiff, Nat.reduceLeDiff, Int.reduceEq, Int.reduceBEq, Int.reduceBNe, Int.reduceNeg, UInt8.reduceToNat, Nat.reduceBEq]
    refine wq_loop_at (fun r σ => ∃ i : Nat, i ≤ x.Ents.length ∧ r = x.Ents.length - i ∧ σ = slots 45 [(2, .c .one [.sh false (.t ⟨⟨p⟩⟩)]), (3, .c .box [.sh true (.s 6 (t.Inodes.map TInode.pv)), .sh false (.i .i64 t.Next)]), (4, .c .box [.sh false (.i .i64 x.Ino), .sh false (.i .i64 x.Kind), .sh false (.i .i64 x.Links), .sh true (.s 1 (x.Data.map bpv)), .sh true (.s 2 (x.Ents.map TEnt.pv)), .sh true (.s 2 (x.Attrs.map TAttr.pv))]), (7, .c .one [.ow false 1 ((pathsN t.Inodes (f + 1) (x.Ents.take i) p).map ppv)]), (15, .c .one [.sh true (.s 2 (x.Ents.map TEnt.pv))]), (16, .c .one [.sh false (.i .i64 (x.Ents.length : Nat))]), (17, .c .one [.sh false (.i .i64 (i : Nat))])]) x.Ents.length (by omega) ?_ ?_
    · simp only [go_sem, Nat.reduceLT, Nat.reduceAdd, Nat.reduceSub, Nat.reduceEqDiff, Nat.reduceLeDiff, Int.reduceEq, Int.reduceBEq, Int.reduceBNe, Int.reduceNeg, UInt8.reduceToNat, Nat.reduceBEq]
      exact ⟨0, Nat.zero_le _, rfl, rfl⟩
    · rintro r σ ⟨i, hi, rfl, rfl⟩
      by_cases hlt : i < x.Ents.length
      · have h1 : ((i : Int) < (x.Ents.length : Int)) := by omega
        have hy : x.Ents[i]? = some x.Ents[i] := List.getElem?_eq_getElem hlt
        have hmem := List.getElem_mem hlt
        have heo := hx.Ents.1 _ hmem
        generalize x.Ents[i] = e at hy hmem heo
        have htk : x.Ents.take (i + 1) = x.Ents.take i ++ [e] := by rw [List.take_add_one, hy]; rfl
        have hsn := paths_snoc t.Inodes f (x.Ents.take i) e p
        rw [← htk] at hsn
        have hle := paths_take (l := t.Inodes) (f := f) (es := x.Ents) (p := p) (i + 1)
        rw [hsn, List.length_append, List.length_cons] at hle
        have hdn := hfl.down (List.mem_map.2 ⟨e, hmem, rfl⟩ : e.Ino ∈ x.Ents.map (·.Ino))
        have hnl := heo.Name
        obtain ⟨⟨⟨nm⟩⟩, ino⟩ := e
        unfold okS at hnl
        simp only [size_lit] at hnl
        simp only [toList_mk] at hsn hle
        have hq : (p ++ [47] ++ nm).length + f * 1048577 ≤ 100000000 := by simp only [List.length_append, List.length_cons, List.length_nil]; omega
        have c1 : (((p.length + 1 : Nat) : Int) > IntKind.i64.max) = False := cat_ok (by omega)
        have c2 : (((p.length + 1 + nm.length : Nat) : Int) > IntKind.i64.max) = False := cat_ok (by omega)
        have l1 : ((pathsN t.Inodes (f + 1) (x.Ents.take i) p).length + 1) * 16 ≤ LIM := by omega
        have hat := inodeAtImpl_ok m (by omega) t ht ino
        simp only [go_sem] at hat
        unfold atC at hat
        cases hno : nodeOf t.Inodes ino with
        | none =>
          have hents : entsOf t.Inodes ino = [] := by unfold entsOf; rw [hno]
          have hrec := ih (by omega) m hm zeroI zeroI_ok (by unfold own at hdn; rw [hents] at hdn; exact hdn) (p ++ [47] ++ nm) hq
          unfold nodeOf at hno
          rw [hno] at hat
          simp only [go_sem, nodeZ] at hat
          simp only [go_sem, TInode.pv, zeroI] at hrec
          have l2 : ((pathsN t.Inodes (f + 1) (x.Ents.take i) p).length + 1 + (pathsN t.Inodes f [] (p ++ [47] ++ nm)).length) * 16 ≤ LIM := by
            rw [hents] at hle; omega
          simp only [go_sem, Nat.reduceLT, Nat.reduceAdd, Nat.reduceSub, Nat.reduceEqDiff, Nat.reduceLeDiff, Int.reduceEq, Int.reduceBEq, Int.reduceBNe, Int.reduceNeg, UInt8.reduceToNat, Nat.reduceBEq, h1, hy, cat_lit, size_lit, c1, c2, l1, hat, hrec, l2, wrap_succ hlt (by omega)]
          have hst : (pathsN t.Inodes (f + 1) (x.Ents.take (i + 1)) p).map ppv = (pathsN t.Inodes (f + 1) (x.Ents.take i) p).map ppv ++ [[.t ⟨⟨p ++ [47] ++ nm⟩⟩]] ++ (pathsN t.Inodes f [] (p ++ [47] ++ nm)).map ppv := by
            rw [hsn, hents, List.map_append, List.map_cons]; simp only [List.append_assoc, List.cons_append, List.nil_append, ppv]
          refine ⟨_, by omega, i + 1, hlt, rfl, ?_⟩
          rw [hst]
        | some y =>
          have hents : entsOf t.Inodes ino = y.Ents := by unfold entsOf; rw [hno]
          have hyo := ht.Inodes.1 _ (nodeOf_mem hno).1
          have hrec := ih (by omega) m hm y hyo (by unfold own at hdn; rw [hents] at hdn; exact hdn) (p ++ [47] ++ nm) hq
          unfold nodeOf at hno
          rw [hno] at hat
          simp only [go_sem, nodeC] at hat
          simp only [go_sem, TInode.pv] at hrec
          have l2 : ((pathsN t.Inodes (f + 1) (x.Ents.take i) p).length + 1 + (pathsN t.Inodes f y.Ents (p ++ [47] ++ nm)).length) * 16 ≤ LIM := by
            rw [hents] at hle; omega
          simp only [go_sem, Nat.reduceLT, Nat.reduceAdd, Nat.reduceSub, Nat.reduceEqDiff, Nat.reduceLeDiff, Int.reduceEq, Int.reduceBEq, Int.reduceBNe, Int.reduceNeg, UInt8.reduceToNat, Nat.reduceBEq, h1, hy, cat_lit, size_lit, c1, c2, l1, hat, hrec, l2, wrap_succ hlt (by omega)]
          have hst : (pathsN t.Inodes (f + 1) (x.Ents.take (i + 1)) p).map ppv = (pathsN t.Inodes (f + 1) (x.Ents.take i) p).map ppv ++ [[.t ⟨⟨p ++ [47] ++ nm⟩⟩]] ++ (pathsN t.Inodes f y.Ents (p ++ [47] ++ nm)).map ppv := by
            rw [hsn, hents, List.map_append, List.map_cons]; simp only [List.append_assoc, List.cons_append, List.nil_append, ppv]
          refine ⟨_, by omega, i + 1, hlt, rfl, ?_⟩
          rw [hst]
      · have h1 : ¬ ((i : Int) < (x.Ents.length : Int)) := by omega
        obtain rfl : i = x.Ents.length := by omega
        rw [List.take_length]
        simp only [go_sem, Nat.reduceLT, Nat.reduceAdd, Nat.reduceSub, Nat.reduceEqDiff, Nat.reduceLeDiff, Int.reduceEq, Int.reduceBEq, Int.reduceBNe, Int.reduceNeg, UInt8.reduceToNat, Nat.reduceBEq, h1]

end Go.Proofs.YticgilhndadkiaaGreatDoor.R
