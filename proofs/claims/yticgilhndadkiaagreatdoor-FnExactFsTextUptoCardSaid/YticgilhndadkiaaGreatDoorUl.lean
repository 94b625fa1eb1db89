/- The inodes that are reached: the reference. -/
import Derived.Test.YticgilhndadkiaaGreatDoorUk
set_option maxRecDepth 100000
set_option linter.unusedVariables false
set_option linter.unusedSimpArgs false
namespace Go.Proofs.YticgilhndadkiaaGreatDoor.R
open Go

/-- Closed: what its inodes lead to is in it. -/
def Shut (l : List TInode) (L : List Int) : Prop := ∀ a ∈ L, ∀ x, nodeOf l a = some x → ∀ k ∈ kidsOf x, (nodeOf l k).isSome = true → k ∈ L
theorem rnd_shut {t : TTab} {l L : List Int} (h : Rnd t l L l.length []) : ∀ a ∈ l, ∀ x, nodeOf t.Inodes a = some x → ∀ k ∈ kidsOf x, (nodeOf t.Inodes k).isSome = true → k ∈ L := by
  have := h.kid
  rw [List.take_length] at this
  exact this
theorem shut_all {l : List TInode} {L : List Int} (hs : Shut l L) (h1 : (nodeOf l 1).isSome = true → 1 ∈ L) {k : Int} (h : Rch l k) : k ∈ L := by
  induction h with
  | root hp => exact h1 hp
  | step a k x _ hx hk hp ih => exact hs a ih x hx k hk hp
theorem rnd_grow {t : TTab} {l L : List Int} {i : Nat} (hnd : l.Nodup) (h1 : (nodeOf t.Inodes 1).isSome = true → 1 ∈ l) (h : Rnd t l L l.length []) (hl : Shut t.Inodes l ∨ i + 1 ≤ l.length) : Shut t.Inodes L ∨ i + 1 + 1 ≤ L.length := by
  by_cases hs : Shut t.Inodes l
  · left
    intro a ha x hx k hk hp
    exact h.sub k (hs a (shut_all hs h1 (h.r a ha)) x hx k hk hp)
  · right
    have hl := hl.resolve_left hs
    have : ∃ k, k ∈ L ∧ ¬ k ∈ l := by
      refine Classical.byContradiction fun hno => hs fun a ha x hx k hk hp => ?_
      refine Classical.byContradiction fun hk2 => hno ⟨k, rnd_shut h a ha x hx k hk hp, hk2⟩
    obtain ⟨k, hk, hk2⟩ := this
    have h1 : (k :: l).length ≤ L.length := nodup_len (List.nodup_cons.2 ⟨hk2, hnd⟩) fun j hj => by
      rcases List.mem_cons.1 hj with rfl | hj
      · exact hk
      · exact h.sub j hj
    simp only [List.length_cons] at h1
    omega
theorem full_of {t : TTab} {L : List Int} (hnd : L.Nodup) (hr : ∀ k ∈ L, Rch t.Inodes k) (h1 : (nodeOf t.Inodes 1).isSome = true → 1 ∈ L) (hs : Shut t.Inodes L) : Full t.Inodes L :=
  ⟨hnd, fun k => ⟨hr k, shut_all hs h1⟩⟩

set_option maxHeartbeats 4000000 in
theorem reachedSpec_ok (n : Nat) (hn : Big + 9 ≤ n) (t : TTab) (ht : t.ok) (hs : Small t) : ∃ (c : CV) (L : List Int), (∃ fl, c = .sh fl (.s 1 (L.map ipv)) ∨ c = .ow fl 1 (L.map ipv)) ∧ Full t.Inodes L ∧ pcall env n 65 [.c .agg (t.pv.map argC')] [] = some ⟨.c .one [c], []⟩ := by
  obtain ⟨m, rfl⟩ := ex_pred hn
  have hB := big_bd
  have hbd : Bd = 1048576 := rfl
  have hl := hs.n
  have h8 : 8 ≤ LIM := by decide
  suffices h : @Wq _ (pcall env (m + 1) 65 [.c .agg (t.pv.map argC')] []) ⟨fun r => ∃ (c : CV) (L : List Int), (∃ fl, c = .sh fl (.s 1 (L.map ipv)) ∨ c = .ow fl 1 (L.map ipv)) ∧ Full t.Inodes L ∧ r = ⟨.c .one [c], []⟩⟩ by
    obtain ⟨r, h1, c, L, h2, h3, h4⟩ := h; exact ⟨c, L, h2, h3, by rw [h1, h4]⟩
  have hl4 := l4At_ok m (deep hn (by decide)) t ht 1
  have hpg := place_ge (l := t.Inodes) (k := 1)
  simp only [go_sem] at hl4
  refine wq_pcall (fn := Tryz.f65) rfl rfl rfl (Nat.le_of_ble_eq_true rfl) ?_
  unfold Tryz.f65
  cases hpl : (nodeOf t.Inodes 1).isSome with
  | false =>
    rw [hpl] at hpg
    have hlt : placeI t.Inodes 1 < 0 := by simpa using hpg
    simp only [go_sem, Nat.reduceLT, Nat.reduceAdd, Nat.reduceSub, Nat.reduceEqDiff, Nat.reduceLeDiff, Int.reduceEq, Int.reduceBEq, Int.reduceBNe, Int.reduceNeg, UInt8.reduceToNat, Nat.reduceBEq, hl4, hlt]
    refine ⟨_, [], ⟨_, .inr rfl⟩, full_of List.nodup_nil (fun k hk => by simp at hk) (fun h => by rw [hpl] at h; simp at h) (fun a ha => by simp at ha), rfl⟩
  | true =>
    rw [hpl] at hpg
    have hlt : ¬ placeI t.Inodes 1 < 0 := by simpa using hpg
    simp only [go_sem, Nat.reduceLT, Nat.reduceAdd, Nat.reduceSub, Nat.reduceEqDiff, Nat.reduceLeDiff, Int.reduceEq, Int.reduceBEq, Int.reduceBNe, Int.reduceNeg, UInt8.reduceToNat, Nat.reduceBEq, hl4, hlt, h8]
    refine wq_loop_at (fun r σ => ∃ (i : Nat) (c : CV) (L : List Int), i ≤ t.Inodes.length ∧ r = t.Inodes.length - i ∧ (∃ fl, c = .sh fl (.s 1 (L.map ipv)) ∨ c = .ow fl 1 (L.map ipv)) ∧ L.Nodup ∧ (∀ k ∈ L, Rch t.Inodes k) ∧ 1 ∈ L ∧ (Shut t.Inodes L ∨ i + 1 ≤ L.length) ∧ σ = slots 24 [(1, .c .box [.sh true (.s 6 (t.Inodes.map TInode.pv)), .sh false (.i .i64 t.Next)]), (3, .c .one [c]), (4, .c .one [.sh false (.i .i64 (i : Nat))])]) t.Inodes.length (by omega) ?_ ?_
    · simp only [go_sem, Nat.reduceLT, Nat.reduceAdd, Nat.reduceSub, Nat.reduceEqDiff, Nat.reduceLeDiff, Int.reduceEq, Int.reduceBEq, Int.reduceBNe, Int.reduceNeg, UInt8.reduceToNat, Nat.reduceBEq]
      refine ⟨0, _, [1], Nat.zero_le _, rfl, ⟨_, .inr rfl⟩, by simp, fun k hk => ?_, by simp, .inr (by simp), rfl⟩
      have : k = 1 := by simpa using hk
      subst this; exact .root hpl
    · rintro r σ ⟨i, c, L, hi, rfl, hc, hnd, hr, h1, hsh, rfl⟩
      by_cases hlt2 : i < t.Inodes.length
      · have h2 : ((i : Int) < (t.Inodes.length : Int)) := by omega
        obtain ⟨c', L', hc', hrnd, hnx⟩ := l7Next_ok m (deep hn (by decide)) t ht hs L hnd hr
        simp only [go_sem] at hnx
        have hgr := rnd_grow hnd (fun _ => h1) hrnd hsh
        have h1' := hrnd.sub 1 h1
        rcases hc with ⟨fl, rfl | rfl⟩ <;> rcases hc' with rfl | rfl <;>
        · simp only [go_sem, Nat.reduceLT, Nat.reduceAdd, Nat.reduceSub, Nat.reduceEqDiff, Nat.reduceLeDiff, Int.reduceEq, Int.reduceBEq, Int.reduceBNe, Int.reduceNeg, UInt8.reduceToNat, Nat.reduceBEq, h2, hnx, wrap_succ hlt2 (by omega)]
          first
          | exact ⟨_, by omega, i + 1, .sh true (.s 1 (L'.map ipv)), L', hlt2, rfl, ⟨_, .inl rfl⟩, hrnd.nd, hrnd.r, h1', hgr, by with_reducible rfl⟩
          | exact ⟨_, by omega, i + 1, .ow true 1 (L'.map ipv), L', hlt2, rfl, ⟨_, .inr rfl⟩, hrnd.nd, hrnd.r, h1', hgr, by with_reducible rfl⟩
      · have h2 : ¬ ((i : Int) < (t.Inodes.length : Int)) := by omega
        obtain rfl : i = t.Inodes.length := by omega
        have hfull := full_of hnd hr (fun _ => h1) (hsh.resolve_right (by have := rch_len hs hnd hr; omega))
        rcases hc with ⟨fl, rfl | rfl⟩
        · simp only [go_sem, Nat.reduceLT, Nat.reduceAdd, Nat.reduceSub, Nat.reduceEqDiff, Nat.reduceLeDiff, Int.reduceEq, Int.reduceBEq, Int.reduceBNe, Int.reduceNeg, UInt8.reduceToNat, Nat.reduceBEq, h2]
          exact ⟨_, L, ⟨_, .inl rfl⟩, hfull, rfl⟩
        · simp only [go_sem, Nat.reduceLT, Nat.reduceAdd, Nat.reduceSub, Nat.reduceEqDiff, Nat.reduceLeDiff, Int.reduceEq, Int.reduceBEq, Int.reduceBNe, Int.reduceNeg, UInt8.reduceToNat, Nat.reduceBEq, h2]
          exact ⟨_, L, ⟨_, .inr rfl⟩, hfull, rfl⟩

end Go.Proofs.YticgilhndadkiaaGreatDoor.R
