/- Trees: what both programs ask of a table. -/
import Derived.Test.YticgilhndadkiaaGreatDoorUl
set_option maxRecDepth 100000
set_option linter.unusedVariables false
set_option linter.unusedSimpArgs false
namespace Go.Proofs.YticgilhndadkiaaGreatDoor.R
open Go

open Classical in
/-- How many numbers are reached. -/
noncomputable def rchN (l : List TInode) : Nat := if h : ∃ L, Full l L then h.choose.length else 0
theorem rchN_eq {l : List TInode} {L : List Int} (h : Full l L) : L.length = rchN l := by
  have hx : ∃ L, Full l L := ⟨L, h⟩
  unfold rchN
  rw [dif_pos hx]
  exact h.len hx.choose_spec
def entsIn (l : List TInode) (x : TInode) : Bool := allB x.Ents.length fun i => match x.Ents[i]? with
  | some e => (nodeOf l e.Ino).isSome
  | none => true
def treeOne (l : List TInode) (x : TInode) : Bool := ((linksL l x.Ino : Nat) : Int) == x.Links && entsIn l x
def treeAt (l : List TInode) (i : Nat) : Bool := match l[i]? with
  | some x => treeOne l x
  | none => true
noncomputable def treeB (t : TTab) : Bool := tabI t && decide (rchN t.Inodes = t.Inodes.length) && allB t.Inodes.length (treeAt t.Inodes)

theorem small_of {t : TTab} (h : tabI t = true) : Small t := by
  unfold tabI at h
  simp only [Bool.and_eq_true, Bool.not_eq_true', decide_eq_false_iff_not] at h
  have hn := h.1.2
  refine ⟨by omega, fun x hx => ?_⟩
  obtain ⟨i, hi⟩ := List.getElem?_of_mem hx
  unfold nodesB at hn
  have h1 := allB_get hn (List.getElem?_eq_some_iff.1 hi).1
  have h2 : inodeB x = true := by
    unfold nodeAt nodeOne at h1
    rw [hi] at h1
    simp only [Bool.and_eq_true] at h1
    exact h1.1.1
  unfold inodeB at h2
  simp only [Bool.and_eq_true] at h2
  have h3 := h2.1.1.2
  unfold entsB at h3
  simp only [Bool.and_eq_true, decide_eq_true_eq] at h3
  omega
theorem treeAt_1 {l : List TInode} {j : Nat} {x : TInode} (h : l[j]? = some x) (hb : (((linksL l x.Ino : Nat) : Int) == x.Links) = false) : treeAt l j = false := by
  simp only [treeAt, h, treeOne, hb, Bool.false_and]
theorem treeAt_2 {l : List TInode} {j : Nat} {x : TInode} (h : l[j]? = some x) (hb : (((linksL l x.Ino : Nat) : Int) == x.Links) = true) : treeAt l j = entsIn l x := by
  simp only [treeAt, h, treeOne, hb, Bool.true_and]
theorem entsIn_bad {l : List TInode} {x : TInode} {i : Nat} {e : TEnt} (h : x.Ents[i]? = some e) (hb : (nodeOf l e.Ino).isSome = false) : entsIn l x = false := by
  unfold entsIn
  exact allB_bad (List.getElem?_eq_some_iff.1 h).1 (by rw [h]; exact hb)

theorem place_lt {l : List TInode} {k : Int} : decide (placeI l k < 0) = !(nodeOf l k).isSome := by
  rw [← place_ge]
  by_cases h : placeI l k < 0
  · rw [decide_eq_true h, decide_eq_false (by omega)]; rfl
  · rw [decide_eq_false h, decide_eq_true (by omega)]; rfl

set_option maxHeartbeats 8000000 in
theorem treeSpec_ok (n : Nat) (hn : Big + 10 ≤ n) (t : TTab) (ht : t.ok) : pcall env n 45 [.c .agg (t.pv.map argC')] [] = some ⟨pvSV (.b (treeB t)), []⟩ := by
  obtain ⟨m, rfl⟩ := ex_pred hn
  have hB := big_bd
  have hbd : Bd = 1048576 := rfl
  have hl := ht.Inodes.2
  have ho := ht.Inodes.1
  have htab := tabSpec_ok m (deep hn (by decide)) t ht
  rw [← tab_eq] at htab
  simp only [go_sem] at htab
  refine wq_eq (wq_pcall (fn := Tryz.f45) rfl rfl rfl (Nat.le_of_ble_eq_true rfl) ?_)
  unfold Tryz.f45
  cases htb : tabI t with
  | false =>
    have e : treeB t = false := by unfold treeB; rw [htb]; rfl
    rw [e]
    simp only [go_sem, Nat.reduceLT, Nat.reduceAdd, Nat.reduceSub, Nat.reduceEqDiff, Nat.reduceLeDiff, Int.reduceEq, Int.reduceBEq, Int.reduceBNe, Int.reduceNeg, UInt8.reduceToNat, Nat.reduceBEq, htab, htb]
    exact chk1 (by kernel_rfl)
  | true =>
  have hs := small_of htb
  obtain ⟨c, L, hc, hfull, hre⟩ := reachedSpec_ok m (deep hn (by decide)) t ht hs
  simp only [go_sem] at hre
  have hrl := rchN_eq hfull
  have hLb := rch_len hs hfull.nd (fun k hk => (hfull.mem k).1 hk)
  by_cases hlen : L.length = t.Inodes.length
  case neg =>
    have e : treeB t = false := by
      unfold treeB
      rw [decide_eq_false (by rw [← hrl]; exact hlen)]
      simp
    have hbne : (((L.length : Nat) : Int) != (t.Inodes.length : Nat)) = true := by simp; omega
    rw [e]
    rcases hc with ⟨fl, rfl | rfl⟩ <;>
    · simp only [go_sem, Nat.reduceLT, Nat.reduceAdd, Nat.reduceSub, Nat.reduceEqDiff, Nat.reduceLeDiff, Int.reduceEq, Int.reduceBEq, Int.reduceBNe, Int.reduceNeg, UInt8.reduceToNat, Nat.reduceBEq, htab, htb, hre, hbne]
      exact chk1 (by kernel_rfl)
  case pos =>
  have hbne : (((L.length : Nat) : Int) != (t.Inodes.length : Nat)) = false := by simp; omega
  have hdec : decide (rchN t.Inodes = t.Inodes.length) = true := decide_eq_true (by rw [← hrl]; exact hlen)
  have bad : ∀ j, j < t.Inodes.length → treeAt t.Inodes j = false → treeB t = false := fun j hj e => by
    unfold treeB; rw [allB_bad hj e]; simp
  have good : (∀ i, i < t.Inodes.length → treeAt t.Inodes i = true) → treeB t = true := fun h => by
    unfold treeB; rw [htb, hdec, allB_all h]; rfl
  have hbt : t.Inodes.length < m := by omega
  apply cut_here
  case main =>
    intro key
    rcases id hc with ⟨fl, h9 | h9⟩
    · simp only [go_sem, Nat.reduceLT, Nat.reduceAdd, Nat.reduceSub, Nat.reduceEqDiff, Nat.reduceLeDiff, Int.reduceEq, Int.reduceBEq, Int.reduceBNe, Int.reduceNeg, UInt8.reduceToNat, Nat.reduceBEq, htab, htb, hre, h9, hbne]
      refine chk (by kernel_rfl) ?_
      refine wq_loop_at (fun r σ => ∃ j : Nat, j ≤ t.Inodes.length ∧ r = t.Inodes.length - j ∧ (∀ i, i < j → treeAt t.Inodes i = true) ∧ σ = slots 53 [(1, .c .box [.sh true (.s 6 (t.Inodes.map TInode.pv)), .sh false (.i .i64 t.Next)]), (3, .c .one [.sh false (.i .i64 (j : Nat))])]) t.Inodes.length hbt ?_ key
      simp only [go_sem, Nat.reduceLT, Nat.reduceAdd, Nat.reduceSub, Nat.reduceEqDiff, Nat.reduceLeDiff, Int.reduceEq, Int.reduceBEq, Int.reduceBNe, Int.reduceNeg, UInt8.reduceToNat, Nat.reduceBEq]
      exact ⟨0, Nat.zero_le _, rfl, fun i hi => absurd hi (Nat.not_lt_zero _), rfl⟩
    · simp only [go_sem, Nat.reduceLT, Nat.reduceAdd, Nat.reduceSub, Nat.reduceEqDiff, Nat.reduceLeDiff, Int.reduceEq, Int.reduceBEq, Int.reduceBNe, Int.reduceNeg, UInt8.reduceToNat, Nat.reduceBEq, htab, htb, hre, h9, hbne]
      refine chk (by kernel_rfl) ?_
      refine wq_loop_at (fun r σ => ∃ j : Nat, j ≤ t.Inodes.length ∧ r = t.Inodes.length - j ∧ (∀ i, i < j → treeAt t.Inodes i = true) ∧ σ = slots 53 [(1, .c .box [.sh true (.s 6 (t.Inodes.map TInode.pv)), .sh false (.i .i64 t.Next)]), (3, .c .one [.sh false (.i .i64 (j : Nat))])]) t.Inodes.length hbt ?_ key
      simp only [go_sem, Nat.reduceLT, Nat.reduceAdd, Nat.reduceSub, Nat.reduceEqDiff, Nat.reduceLeDiff, Int.reduceEq, Int.reduceBEq, Int.reduceBNe, Int.reduceNeg, UInt8.reduceToNat, Nat.reduceBEq]
      exact ⟨0, Nat.zero_le _, rfl, fun i hi => absurd hi (Nat.not_lt_zero _), rfl⟩
  case pf =>
    rintro r σ ⟨j, hj, rfl, hp, rfl⟩
    by_cases hlt : j < t.Inodes.length
    · have h1 : ((j : Int) < (t.Inodes.length : Int)) := by omega
      have hx : t.Inodes[j]? = some t.Inodes[j] := List.getElem?_eq_getElem hlt
      have hok := ho _ (List.getElem_mem hlt)
      generalize t.Inodes[j] = a at hx hok
      have step : treeAt t.Inodes j = true → ∀ i, i < j + 1 → treeAt t.Inodes i = true := fun e i hi => by
        rcases Nat.lt_succ_iff_lt_or_eq.1 hi with h | h
        · exact hp i h
        · subst h; exact e
      have hln := linksSpec_ok m (deep hn (by decide)) t ht a.Ino
      simp only [go_sem] at hln
      cases hk : (((linksL t.Inodes a.Ino : Nat) : Int) == a.Links) with
      | false =>
        rw [bad j hlt (treeAt_1 hx hk)]
        have hk' : (((linksL t.Inodes a.Ino : Nat) : Int) != a.Links) = true := by unfold bne; rw [hk]; rfl
        simp only [go_sem, Nat.reduceLT, Nat.reduceAdd, Nat.reduceSub, Nat.reduceEqDiff, Nat.reduceLeDiff, Int.reduceEq, Int.reduceBEq, Int.reduceBNe, Int.reduceNeg, UInt8.reduceToNat, Nat.reduceBEq, h1, hx, hln, hk']
        exact chk1 (by kernel_rfl)
      | true =>
        have hk' : (((linksL t.Inodes a.Ino : Nat) : Int) != a.Links) = false := by unfold bne; rw [hk]; rfl
        have e2 := treeAt_2 hx hk
        simp only [go_sem, Nat.reduceLT, Nat.reduceAdd, Nat.reduceSub, Nat.reduceEqDiff, Nat.reduceLeDiff, Int.reduceEq, Int.reduceBEq, Int.reduceBNe, Int.reduceNeg, UInt8.reduceToNat, Nat.reduceBEq, h1, hx, hln, hk']
        refine chk (by kernel_rfl) ?_
        have hel := hok.Ents.2
        refine wq_loop_at (fun r σ => ∃ i : Nat, i ≤ a.Ents.length ∧ r = a.Ents.length - i ∧ (∀ q, q < i → ∀ e, a.Ents[q]? = some e → (nodeOf t.Inodes e.Ino).isSome = true) ∧ σ = slots 53 [(1, .c .box [.sh true (.s 6 (t.Inodes.map TInode.pv)), .sh false (.i .i64 t.Next)]), (3, .c .one [.sh false (.i .i64 (j : Nat))]), (4, .c .box [.sh false (.i .i64 a.Ino), .sh false (.i .i64 a.Kind), .sh false (.i .i64 a.Links), .sh true (.s 1 (a.Data.map bpv)), .sh true (.s 2 (a.Ents.map TEnt.pv)), .sh true (.s 2 (a.Attrs.map TAttr.pv))]), (5, .c .one [.sh false (.i .i64 (i : Nat))])]) a.Ents.length (by omega) ?_ ?_
        · simp only [go_sem, Nat.reduceLT, Nat.reduceAdd, Nat.reduceSub, Nat.reduceEqDiff, Nat.reduceLeDiff, Int.reduceEq, Int.reduceBEq, Int.reduceBNe, Int.reduceNeg, UInt8.reduceToNat, Nat.reduceBEq]
          exact ⟨0, Nat.zero_le _, rfl, fun q hq => absurd hq (Nat.not_lt_zero _), rfl⟩
        · rintro r σ ⟨i, hi, rfl, hpe, rfl⟩
          by_cases hlt2 : i < a.Ents.length
          · have h2 : ((i : Int) < (a.Ents.length : Int)) := by omega
            have hy : a.Ents[i]? = some a.Ents[i] := List.getElem?_eq_getElem hlt2
            generalize a.Ents[i] = e at hy
            have hpl := l4At_ok m (deep hn (by decide)) t ht e.Ino
            have hpg := place_lt (l := t.Inodes) (k := e.Ino)
            simp only [go_sem] at hpl
            cases hps : (nodeOf t.Inodes e.Ino).isSome with
            | false =>
              rw [hps] at hpg
              have hpg' : placeI t.Inodes e.Ino < 0 := by simpa using hpg
              rw [bad j hlt (by rw [e2]; exact entsIn_bad hy hps)]
              simp only [go_sem, Nat.reduceLT, Nat.reduceAdd, Nat.reduceSub, Nat.reduceEqDiff, Nat.reduceLeDiff, Int.reduceEq, Int.reduceBEq, Int.reduceBNe, Int.reduceNeg, UInt8.reduceToNat, Nat.reduceBEq, h2, hy, hpl, hpg']
              exact chk1 (by kernel_rfl)
            | true =>
              rw [hps] at hpg
              have hpg' : ¬ placeI t.Inodes e.Ino < 0 := by simpa using hpg
              simp only [go_sem, Nat.reduceLT, Nat.reduceAdd, Nat.reduceSub, Nat.reduceEqDiff, Nat.reduceLeDiff, Int.reduceEq, Int.reduceBEq, Int.reduceBNe, Int.reduceNeg, UInt8.reduceToNat, Nat.reduceBEq, h2, hy, hpl, hpg', wrap_succ hlt2 (by omega)]
              refine chk (by kernel_rfl) ⟨_, by omega, i + 1, hlt2, rfl, fun q hq e' he' => ?_, rfl⟩
              rcases Nat.lt_succ_iff_lt_or_eq.1 hq with h | h
              · exact hpe q h e' he'
              · subst h; rw [hy] at he'; injection he' with he'; subst he'; exact hps
          · have h2 : ¬ ((i : Int) < (a.Ents.length : Int)) := by omega
            obtain rfl : i = a.Ents.length := by omega
            have e3 : treeAt t.Inodes j = true := by
              rw [e2]
              unfold entsIn
              refine allB_all fun q hq => ?_
              rw [List.getElem?_eq_getElem hq]
              exact hpe q hq _ (List.getElem?_eq_getElem hq)
            simp only [go_sem, Nat.reduceLT, Nat.reduceAdd, Nat.reduceSub, Nat.reduceEqDiff, Nat.reduceLeDiff, Int.reduceEq, Int.reduceBEq, Int.reduceBNe, Int.reduceNeg, UInt8.reduceToNat, Nat.reduceBEq, h2, wrap_succ hlt (by omega)]
            exact ⟨_, by omega, j + 1, hlt, rfl, step e3, rfl⟩
    · have h1 : ¬ ((j : Int) < (t.Inodes.length : Int)) := by omega
      obtain rfl : j = t.Inodes.length := by omega
      rw [good hp]
      simp only [go_sem, Nat.reduceLT, Nat.reduceAdd, Nat.reduceSub, Nat.reduceEqDiff, Nat.reduceLeDiff, Int.reduceEq, Int.reduceBEq, Int.reduceBNe, Int.reduceNeg, UInt8.reduceToNat, Nat.reduceBEq, h1]

set_option maxHeartbeats 8000000 in
theorem treeImpl_ok (n : Nat) (hn : Big + 10 ≤ n) (t : TTab) (ht : t.ok) : pcall env n 53 [.c .agg (t.pv.map argC')] [] = some ⟨pvSV (.b (treeB t)), []⟩ := by
  obtain ⟨m, rfl⟩ := ex_pred hn
  have hB := big_bd
  have hbd : Bd = 1048576 := rfl
  have hl := ht.Inodes.2
  have ho := ht.Inodes.1
  have htab := tabImpl_ok m (deep hn (by decide)) t ht
  simp only [go_sem] at htab
  refine wq_eq (wq_pcall (fn := Tryz.f53) rfl rfl rfl (Nat.le_of_ble_eq_true rfl) ?_)
  unfold Tryz.f53
  cases htb : tabI t with
  | false =>
    have e : treeB t = false := by unfold treeB; rw [htb]; rfl
    rw [e]
    simp only [go_sem, Nat.reduceLT, Nat.reduceAdd, Nat.reduceSub, Nat.reduceEqDiff, Nat.reduceLeDiff, Int.reduceEq, Int.reduceBEq, Int.reduceBNe, Int.reduceNeg, UInt8.reduceToNat, Nat.reduceBEq, htab, htb]
    exact chk1 (by kernel_rfl)
  | true =>
  have hs := small_of htb
  obtain ⟨L, hfull, hL1000, hre⟩ := reachedImpl_ok m (deep hn (by decide)) t ht hs
  simp only [go_sem] at hre
  have hrl := rchN_eq hfull
  have hLb := rch_len hs hfull.nd (fun k hk => (hfull.mem k).1 hk)
  by_cases hlen : L.length = t.Inodes.length
  case neg =>
    have e : treeB t = false := by
      unfold treeB
      rw [decide_eq_false (by rw [← hrl]; exact hlen)]
      simp
    have hbne : (((L.length : Nat) : Int) != (t.Inodes.length : Nat)) = true := by simp; omega
    rw [e]
    simp only [go_sem, Nat.reduceLT, Nat.reduceAdd, Nat.reduceSub, Nat.reduceEqDiff, Nat.reduceLeDiff, Int.reduceEq, Int.reduceBEq, Int.reduceBNe, Int.reduceNeg, UInt8.reduceToNat, Nat.reduceBEq, htab, htb, hre, hbne]
    exact chk1 (by kernel_rfl)
  case pos =>
  have hbne : (((L.length : Nat) : Int) != (t.Inodes.length : Nat)) = false := by simp; omega
  have hdec : decide (rchN t.Inodes = t.Inodes.length) = true := decide_eq_true (by rw [← hrl]; exact hlen)
  have bad : ∀ j, j < t.Inodes.length → treeAt t.Inodes j = false → treeB t = false := fun j hj e => by
    unfold treeB; rw [allB_bad hj e]; simp
  have good : (∀ i, i < t.Inodes.length → treeAt t.Inodes i = true) → treeB t = true := fun h => by
    unfold treeB; rw [htb, hdec, allB_all h]; rfl
  have hbt : t.Inodes.length < m := by omega
  simp only [go_sem, Nat.reduceLT, Nat.reduceAdd, Nat.reduceSub, Nat.reduceEqDiff, Nat.reduceLeDiff, Int.reduceEq, Int.reduceBEq, Int.reduceBNe, Int.reduceNeg, UInt8.reduceToNat, Nat.reduceBEq, htab, htb, hre, hbne]
  refine chk (by kernel_rfl) ?_
  refine wq_loop_at (fun r σ => ∃ j : Nat, j ≤ t.Inodes.length ∧ r = t.Inodes.length - j ∧ (∀ i, i < j → treeAt t.Inodes i = true) ∧ σ = slots 47 [(1, .c .box [.sh true (.s 6 (t.Inodes.map TInode.pv)), .sh false (.i .i64 t.Next)]), (20, .c .one [.sh true (.s 6 (t.Inodes.map TInode.pv))]), (21, .c .one [.sh false (.i .i64 (t.Inodes.length : Nat))]), (22, .c .one [.sh false (.i .i64 (j : Nat))])]) t.Inodes.length hbt ?_ ?_
  · simp only [go_sem, Nat.reduceLT, Nat.reduceAdd, Nat.reduceSub, Nat.reduceEqDiff, Nat.reduceLeDiff, Int.reduceEq, Int.reduceBEq, Int.reduceBNe, Int.reduceNeg, UInt8.reduceToNat, Nat.reduceBEq]
    exact ⟨0, Nat.zero_le _, rfl, fun i hi => absurd hi (Nat.not_lt_zero _), rfl⟩
  · rintro r σ ⟨j, hj, rfl, hp, rfl⟩
    by_cases hlt : j < t.Inodes.length
    · have h1 : ((j : Int) < (t.Inodes.length : Int)) := by omega
      have hx : t.Inodes[j]? = some t.Inodes[j] := List.getElem?_eq_getElem hlt
      have hok := ho _ (List.getElem_mem hlt)
      generalize t.Inodes[j] = a at hx hok
      have step : treeAt t.Inodes j = true → ∀ i, i < j + 1 → treeAt t.Inodes i = true := fun e i hi => by
        rcases Nat.lt_succ_iff_lt_or_eq.1 hi with h | h
        · exact hp i h
        · subst h; exact e
      have hln := linksImpl_ok m (deep hn (by decide)) t ht a.Ino
      simp only [go_sem] at hln
      cases hk : (((linksL t.Inodes a.Ino : Nat) : Int) == a.Links) with
      | false =>
        rw [bad j hlt (treeAt_1 hx hk)]
        have hk' : (a.Links != ((linksL t.Inodes a.Ino : Nat) : Int)) = true := by unfold bne; rw [BEq.comm, hk]; rfl
        simp only [go_sem, Nat.reduceLT, Nat.reduceAdd, Nat.reduceSub, Nat.reduceEqDiff, Nat.reduceLeDiff, Int.reduceEq, Int.reduceBEq, Int.reduceBNe, Int.reduceNeg, UInt8.reduceToNat, Nat.reduceBEq, h1, hx, hln, hk']
        exact chk1 (by kernel_rfl)
      | true =>
        have hk' : (a.Links != ((linksL t.Inodes a.Ino : Nat) : Int)) = false := by unfold bne; rw [BEq.comm, hk]; rfl
        have e2 := treeAt_2 hx hk
        simp only [go_sem, Nat.reduceLT, Nat.reduceAdd, Nat.reduceSub, Nat.reduceEqDiff, Nat.reduceLeDiff, Int.reduceEq, Int.reduceBEq, Int.reduceBNe, Int.reduceNeg, UInt8.reduceToNat, Nat.reduceBEq, h1, hx, hln, hk']
        refine chk (by kernel_rfl) ?_
        have hel := hok.Ents.2
        refine wq_loop_at (fun r σ => ∃ i : Nat, i ≤ a.Ents.length ∧ r = a.Ents.length - i ∧ (∀ q, q < i → ∀ e, a.Ents[q]? = some e → (nodeOf t.Inodes e.Ino).isSome = true) ∧ σ = slots 47 [(1, .c .box [.sh true (.s 6 (t.Inodes.map TInode.pv)), .sh false (.i .i64 t.Next)]), (4, .c .box [.sh false (.i .i64 a.Ino), .sh false (.i .i64 a.Kind), .sh false (.i .i64 a.Links), .sh true (.s 1 (a.Data.map bpv)), .sh true (.s 2 (a.Ents.map TEnt.pv)), .sh true (.s 2 (a.Attrs.map TAttr.pv))]), (20, .c .one [.sh true (.s 6 (t.Inodes.map TInode.pv))]), (21, .c .one [.sh false (.i .i64 (t.Inodes.length : Nat))]), (22, .c .one [.sh false (.i .i64 (j : Nat))]), (34, .c .one [.sh true (.s 2 (a.Ents.map TEnt.pv))]), (35, .c .one [.sh false (.i .i64 (a.Ents.length : Nat))]), (36, .c .one [.sh false (.i .i64 (i : Nat))])]) a.Ents.length (by omega) ?_ ?_
        · simp only [go_sem, Nat.reduceLT, Nat.reduceAdd, Nat.reduceSub, Nat.reduceEqDiff, Nat.reduceLeDiff, Int.reduceEq, Int.reduceBEq, Int.reduceBNe, Int.reduceNeg, UInt8.reduceToNat, Nat.reduceBEq]
          exact ⟨0, Nat.zero_le _, rfl, fun q hq => absurd hq (Nat.not_lt_zero _), rfl⟩
        · rintro r σ ⟨i, hi, rfl, hpe, rfl⟩
          by_cases hlt2 : i < a.Ents.length
          · have h2 : ((i : Int) < (a.Ents.length : Int)) := by omega
            have hy : a.Ents[i]? = some a.Ents[i] := List.getElem?_eq_getElem hlt2
            generalize a.Ents[i] = e at hy
            have hpl := placeOf_ok m (deep hn (by decide)) t ht e.Ino
            have hpg := place_lt (l := t.Inodes) (k := e.Ino)
            simp only [go_sem] at hpl
            cases hps : (nodeOf t.Inodes e.Ino).isSome with
            | false =>
              rw [hps] at hpg
              have hpg' : placeI t.Inodes e.Ino < 0 := by simpa using hpg
              rw [bad j hlt (by rw [e2]; exact entsIn_bad hy hps)]
              simp only [go_sem, Nat.reduceLT, Nat.reduceAdd, Nat.reduceSub, Nat.reduceEqDiff, Nat.reduceLeDiff, Int.reduceEq, Int.reduceBEq, Int.reduceBNe, Int.reduceNeg, UInt8.reduceToNat, Nat.reduceBEq, h2, hy, hpl, hpg']
            | true =>
              rw [hps] at hpg
              have hpg' : ¬ placeI t.Inodes e.Ino < 0 := by simpa using hpg
              simp only [go_sem, Nat.reduceLT, Nat.reduceAdd, Nat.reduceSub, Nat.reduceEqDiff, Nat.reduceLeDiff, Int.reduceEq, Int.reduceBEq, Int.reduceBNe, Int.reduceNeg, UInt8.reduceToNat, Nat.reduceBEq, h2, hy, hpl, hpg', wrap_succ hlt2 (by omega)]
              refine ⟨_, by omega, i + 1, hlt2, rfl, fun q hq e' he' => ?_, rfl⟩
              rcases Nat.lt_succ_iff_lt_or_eq.1 hq with h | h
              · exact hpe q h e' he'
              · subst h; rw [hy] at he'; injection he' with he'; subst he'; exact hps
          · have h2 : ¬ ((i : Int) < (a.Ents.length : Int)) := by omega
            obtain rfl : i = a.Ents.length := by omega
            have e3 : treeAt t.Inodes j = true := by
              rw [e2]
              unfold entsIn
              refine allB_all fun q hq => ?_
              rw [List.getElem?_eq_getElem hq]
              exact hpe q hq _ (List.getElem?_eq_getElem hq)
            simp only [go_sem, Nat.reduceLT, Nat.reduceAdd, Nat.reduceSub, Nat.reduceEqDiff, Nat.reduceLeDiff, Int.reduceEq, Int.reduceBEq, Int.reduceBNe, Int.reduceNeg, UInt8.reduceToNat, Nat.reduceBEq, h2, wrap_succ hlt (by omega)]
            exact ⟨_, by omega, j + 1, hlt, rfl, step e3, rfl⟩
    · have h1 : ¬ ((j : Int) < (t.Inodes.length : Int)) := by omega
      obtain rfl : j = t.Inodes.length := by omega
      rw [good hp]
      simp only [go_sem, Nat.reduceLT, Nat.reduceAdd, Nat.reduceSub, Nat.reduceEqDiff, Nat.reduceLeDiff, Int.reduceEq, Int.reduceBEq, Int.reduceBNe, Int.reduceNeg, UInt8.reduceToNat, Nat.reduceBEq, h1]

end Go.Proofs.YticgilhndadkiaaGreatDoor.R
