/- Pages, and what is read of them. -/
import Derived.Test.YtblelojdboefjaaGreatCf
set_option maxRecDepth 100000
set_option linter.unusedVariables false
set_option linter.unusedSimpArgs false
namespace Go.Proofs.YtblelojdboefjaaGreat.R
open Go

/-- The bytes of a page that is written. -/
def pageB (c : TChip) (blk page : Nat) : Option (List UInt8) := match c.Blocks[blk]? with
  | some b => (match b.Pages[page]? with
    | some p => if p.Used = true then some p.B else none
    | none => none)
  | none => none
def pgCs (r : Option (List UInt8)) : List CV := match r with
  | some x => [.ow true 1 (x.map bpv), .sh false (.b true)]
  | none => [.ow false 1 [], .sh false (.b false)]
theorem pageB_le {c : TChip} (hc : c.ok) {i j : Nat} {x : List UInt8} (h : pageB c i j = some x) : x.length ≤ Bd := by
  unfold pageB at h
  split at h
  · rename_i b e
    split at h
    · rename_i p e2
      split at h
      · injection h with h; subst h
        exact (((hc.Blocks.1 _ (List.mem_of_getElem? e)).Pages.1 _ (List.mem_of_getElem? e2)).B).2
      · simp at h
    · simp at h
  · simp at h
theorem isBlock_ok (n : Nat) (hn : Big + 2 ≤ n) (c : TChip) (hc : c.ok) (i : Nat) (hi : i ≤ 4611686018427387904) : pcall env n 74 [.c .agg (c.pv.map argC'), .c .one [.sh false (.i .i64 (i : Nat))]] [] = some ⟨.c .one [.sh false (.b (decide (i < c.Blocks.length)))], []⟩ := by
  refine walk (fn := Tryz.f74) (d := 1) hn rfl rfl rfl (Nat.le_of_ble_eq_true rfl) fun m hd => ?_
  unfold Tryz.f74
  have hf := fun a b c => from_ok m (hd (by decide)) a b c
  simp only [go_sem] at hf
  have hl := hc.Blocks.2
  have hb : Bd = 1048576 := rfl
  have w1 : IntKind.i64.wrap ((c.Blocks.length : Int) - 1) = (c.Blocks.length : Int) - 1 := wrap_in (by omega) (by omega)
  have e1 : decide ((i : Int) ≤ (c.Blocks.length : Int) - 1) = decide (i < c.Blocks.length) := by
    rw [Bool.eq_iff_iff]; simp; omega
  simp only [go_sem, Nat.reduceLT, Nat.reduceAdd, Nat.reduceSub, Nat.reduceEqDiff, Nat.reduceLeDiff, Int.reduceEq, Int.reduceBEq, Int.reduceBNe, Int.reduceNeg, UInt8.reduceToNat, Nat.reduceBEq, w1, hf, e1]
set_option maxHeartbeats 1000000 in
theorem readI_ok (n : Nat) (hn : Big + 3 ≤ n) (c : TChip) (hc : c.ok) (i j : Nat) (hi : i ≤ 4611686018427387904) (hj : j ≤ 4398046511104) : pcall env n 49 [.c .agg (c.pv.map argC'), .c .one [.sh false (.i .i64 (i : Nat))], .c .one [.sh false (.i .i64 (j : Nat))]] [] = some ⟨tup2 (pgCs (pageB c i j)), []⟩ := by
  refine walk (fn := Tryz.f49) (d := 2) hn rfl rfl rfl (Nat.le_of_ble_eq_true rfl) fun m hd => ?_
  unfold Tryz.f49
  have hf := fun a b c => from_ok m (hd (by decide)) a b c
  have hi := isBlock_ok m (hd (by decide)) c hc i hi
  simp only [go_sem] at hf hi
  have hb : Bd = 1048576 := rfl
  by_cases h1 : i < c.Blocks.length
  · have hx : c.Blocks[i]? = some c.Blocks[i] := List.getElem?_eq_getElem h1
    have hok := hc.Blocks.1 _ (List.getElem_mem h1)
    generalize c.Blocks[i] = b at hx hok
    have hpl := hok.Pages.2
    have w1 : IntKind.i64.wrap ((b.Pages.length : Int) - 1) = (b.Pages.length : Int) - 1 := wrap_in (by omega) (by omega)
    have e1 : decide ((j : Int) ≤ (b.Pages.length : Int) - 1) = decide (j < b.Pages.length) := by
      rw [Bool.eq_iff_iff]; simp; omega
    by_cases h2 : j < b.Pages.length
    · have hy : b.Pages[j]? = some b.Pages[j] := List.getElem?_eq_getElem h2
      have hok2 := hok.Pages.1 _ (List.getElem_mem h2)
      generalize b.Pages[j] = p at hy hok2
      have hlim : LIM = 70368744177664 := rfl
      have hcl := cloneBytes_ok m (hd (by decide)) true (p.B.map bpv) (by have := hok2.B.2; rw [List.length_map]; omega)
      cases h3 : p.Used
      · have hG : pageB c i j = none := by simp only [pageB, hx, hy, h3, Bool.false_eq_true, if_false]
        rw [hG]
        simp only [go_sem, Nat.reduceLT, Nat.reduceAdd, Nat.reduceSub, Nat.reduceEqDiff, Nat.reduceLeDiff, Int.reduceEq, Int.reduceBEq, Int.reduceBNe, Int.reduceNeg, UInt8.reduceToNat, Nat.reduceBEq, hi, h1, hx, w1, hf, e1, h2, hy, h3, tup2, pgCs]
      · have hG : pageB c i j = some p.B := by simp only [pageB, hx, hy, h3, if_true]
        rw [hG]
        simp only [go_sem, Nat.reduceLT, Nat.reduceAdd, Nat.reduceSub, Nat.reduceEqDiff, Nat.reduceLeDiff, Int.reduceEq, Int.reduceBEq, Int.reduceBNe, Int.reduceNeg, UInt8.reduceToNat, Nat.reduceBEq, hi, h1, hx, w1, hf, e1, h2, hy, h3, hcl, tup2, pgCs]
    · have hG : pageB c i j = none := by simp only [pageB, hx, List.getElem?_eq_none (Nat.le_of_not_lt h2)]
      rw [hG]
      simp only [go_sem, Nat.reduceLT, Nat.reduceAdd, Nat.reduceSub, Nat.reduceEqDiff, Nat.reduceLeDiff, Int.reduceEq, Int.reduceBEq, Int.reduceBNe, Int.reduceNeg, UInt8.reduceToNat, Nat.reduceBEq, hi, h1, hx, w1, hf, e1, h2, tup2, pgCs]
  · have hG : pageB c i j = none := by simp only [pageB, List.getElem?_eq_none (Nat.le_of_not_lt h1)]
    rw [hG]
    simp only [go_sem, Nat.reduceLT, Nat.reduceAdd, Nat.reduceSub, Nat.reduceEqDiff, Nat.reduceLeDiff, Int.reduceEq, Int.reduceBEq, Int.reduceBNe, Int.reduceNeg, UInt8.reduceToNat, Nat.reduceBEq, hi, h1, tup2, pgCs]
set_option maxHeartbeats 1000000 in
theorem readS_ok (n : Nat) (hn : Big + 1 ≤ n) (c : TChip) (hc : c.ok) (i j : Nat) (hi : i ≤ 4611686018427387904) (hj : j ≤ 4398046511104) : pcall env n 23 [.c .agg (c.pv.map argC'), .c .one [.sh false (.i .i64 (i : Nat))], .c .one [.sh false (.i .i64 (j : Nat))]] [] = some ⟨tup2 (pgCs (pageB c i j)), []⟩ := by
  refine walk (fn := Tryz.f23) (d := 0) hn rfl rfl rfl (Nat.le_of_ble_eq_true rfl) fun m hd => ?_
  unfold Tryz.f23
  have hb : Bd = 1048576 := rfl
  have g1 : ((i : Int) < 0) = False := by simp
  have g2 : ((j : Int) < 0) = False := by simp
  by_cases h1 : i < c.Blocks.length
  · have h1' : ((i : Int) ≥ (c.Blocks.length : Int)) = False := by simp only [eq_iff_iff, iff_false]; omega
    have hx : c.Blocks[i]? = some c.Blocks[i] := List.getElem?_eq_getElem h1
    have hok := hc.Blocks.1 _ (List.getElem_mem h1)
    generalize c.Blocks[i] = b at hx hok
    have hpl := hok.Pages.2
    by_cases h2 : j < b.Pages.length
    · have h2' : ((j : Int) ≥ (b.Pages.length : Int)) = False := by simp only [eq_iff_iff, iff_false]; omega
      have hy : b.Pages[j]? = some b.Pages[j] := List.getElem?_eq_getElem h2
      have hok2 := hok.Pages.1 _ (List.getElem_mem h2)
      generalize b.Pages[j] = p at hy hok2
      have hlim : LIM = 70368744177664 := rfl
      have hcl : p.B.length ≤ LIM := by have := hok2.B.2; omega
      cases h3 : p.Used
      · have hG : pageB c i j = none := by simp only [pageB, hx, hy, h3, Bool.false_eq_true, if_false]
        rw [hG]
        simp only [go_sem, Nat.reduceLT, Nat.reduceAdd, Nat.reduceSub, Nat.reduceEqDiff, Nat.reduceLeDiff, Int.reduceEq, Int.reduceBEq, Int.reduceBNe, Int.reduceNeg, UInt8.reduceToNat, Nat.reduceBEq, g1, g2, h1', hx, h2', hy, h3, tup2, pgCs]
      · have hG : pageB c i j = some p.B := by simp only [pageB, hx, hy, h3, if_true]
        rw [hG]
        simp only [go_sem, Nat.reduceLT, Nat.reduceAdd, Nat.reduceSub, Nat.reduceEqDiff, Nat.reduceLeDiff, Int.reduceEq, Int.reduceBEq, Int.reduceBNe, Int.reduceNeg, UInt8.reduceToNat, Nat.reduceBEq, g1, g2, h1', hx, h2', hy, h3, hcl, tup2, pgCs]
    · have h2' : ((j : Int) ≥ (b.Pages.length : Int)) = True := by simp only [eq_iff_iff, iff_true]; omega
      have hG : pageB c i j = none := by simp only [pageB, hx, List.getElem?_eq_none (Nat.le_of_not_lt h2)]
      rw [hG]
      simp only [go_sem, Nat.reduceLT, Nat.reduceAdd, Nat.reduceSub, Nat.reduceEqDiff, Nat.reduceLeDiff, Int.reduceEq, Int.reduceBEq, Int.reduceBNe, Int.reduceNeg, UInt8.reduceToNat, Nat.reduceBEq, g1, g2, h1', hx, h2', tup2, pgCs]
  · have h1' : ((i : Int) ≥ (c.Blocks.length : Int)) = True := by simp only [eq_iff_iff, iff_true]; omega
    have hG : pageB c i j = none := by simp only [pageB, List.getElem?_eq_none (Nat.le_of_not_lt h1)]
    rw [hG]
    simp only [go_sem, Nat.reduceLT, Nat.reduceAdd, Nat.reduceSub, Nat.reduceEqDiff, Nat.reduceLeDiff, Int.reduceEq, Int.reduceBEq, Int.reduceBNe, Int.reduceNeg, UInt8.reduceToNat, Nat.reduceBEq, g1, h1', tup2, pgCs]
end Go.Proofs.YtblelojdboefjaaGreat.R
