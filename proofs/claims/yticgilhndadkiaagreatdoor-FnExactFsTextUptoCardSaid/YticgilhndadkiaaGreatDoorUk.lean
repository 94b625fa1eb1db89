/- The inodes that are reached: the reference's round. -/
import Derived.Test.YticgilhndadkiaaGreatDoorUj
set_option maxRecDepth 100000
set_option linter.unusedVariables false
set_option linter.unusedSimpArgs false
namespace Go.Proofs.YticgilhndadkiaaGreatDoor.R
open Go

/-- A loop that is left in its first round. -/
theorem wq_loop_exit {E : Env} {call : CallF} {N n : Nat} {b : Code} {σ : St} {K : Kont (Ex × St)} (hn : 0 < n) (h : @Wq _ (some (tidy N (E.D (firstId b)) σ)) ⟨fun σ => @Wq _ (runCode E call N n b σ) ⟨cont (fun _ => False) K.run⟩⟩) : @Wq _ (runCode E call N n (.loop b) σ) K := by
  refine wq_loop_at (fun _ τ => τ = tidy N (E.D (firstId b)) σ) 0 hn (by rw [wq_some]; rfl) ?_
  rintro k τ rfl
  rw [wq_some] at h
  refine h.mono fun r hr => ?_
  obtain ⟨e, τ⟩ := r
  cases e with
  | normal => exact hr.elim
  | _ => exact hr
theorem cut_here {T G : Prop} (main : T → G) (pf : T) : G := main pf
theorem place_ge {l : List TInode} {k : Int} : decide (placeI l k ≥ 0) = (nodeOf l k).isSome := by
  unfold nodeOf
  rcases place_cases l k with ⟨h1, h2⟩ | ⟨j, x, h1, _, h2⟩
  · rw [h1, h2]; rfl
  · rw [h1, h2]; simp
/-- What is reached, of a small table. -/
theorem rch_len {t : TTab} (hs : Small t) {L : List Int} (h1 : L.Nodup) (h2 : ∀ k ∈ L, Rch t.Inodes k) : L.length ≤ t.Inodes.length := by
  have := nodup_len (M := t.Inodes.map (·.Ino)) h1 fun k hk => by
    have := (h2 k hk).placed
    obtain ⟨x, hx⟩ := Option.isSome_iff_exists.1 this
    obtain ⟨h3, h4⟩ := nodeOf_mem hx
    exact List.mem_map.2 ⟨x, h3, h4⟩
  simpa using this
/-- Numbers that are reached, among them those of l and of the entries of its first i inodes, and of the next one's first j. -/
structure Rnd (t : TTab) (l out : List Int) (i : Nat) (now : List Int) : Prop where
  nd : out.Nodup
  r : ∀ k ∈ out, Rch t.Inodes k
  sub : ∀ k ∈ l, k ∈ out
  kid : ∀ a ∈ l.take i, ∀ x, nodeOf t.Inodes a = some x → ∀ k ∈ kidsOf x, (nodeOf t.Inodes k).isSome = true → k ∈ out
  now : ∀ k ∈ now, (nodeOf t.Inodes k).isSome = true → k ∈ out
theorem Rnd.has {t : TTab} {l out : List Int} {i : Nat} {now : List Int} {k : Int} (h : Rnd t l out i now) (hk : k ∈ out) : Rnd t l out i (now ++ [k]) :=
  ⟨h.nd, h.r, h.sub, h.kid, fun j hj hp => by
    rcases List.mem_append.1 hj with h1 | h1
    · exact h.now j h1 hp
    · have : j = k := by simpa using h1
      subst this; exact hk⟩
theorem Rnd.none {t : TTab} {l out : List Int} {i : Nat} {now : List Int} {k : Int} (h : Rnd t l out i now) (hk : (nodeOf t.Inodes k).isSome = false) : Rnd t l out i (now ++ [k]) :=
  ⟨h.nd, h.r, h.sub, h.kid, fun j hj hp => by
    rcases List.mem_append.1 hj with h1 | h1
    · exact h.now j h1 hp
    · have : j = k := by simpa using h1
      subst this; rw [hk] at hp; simp at hp⟩
theorem Rnd.add {t : TTab} {l out out' : List Int} {i : Nat} {now : List Int} {k : Int} (h : Rnd t l out i now) (hr : Rch t.Inodes k) (hk : hasB out k = false) (hp : out'.Perm (out ++ [k])) : Rnd t l out' i (now ++ [k]) := by
  have hnot : ¬ k ∈ out := fun e => by rw [has_iff.2 e] at hk; simp at hk
  have hm : ∀ j, j ∈ out' ↔ j ∈ out ∨ j = k := fun j => by rw [hp.mem_iff]; simp
  refine ⟨?_, ?_, ?_, ?_, ?_⟩
  · rw [hp.nodup_iff, List.nodup_append]
    refine ⟨h.nd, by simp, fun a ha b hb => ?_⟩
    have : b = k := by simpa using hb
    subst this
    rintro rfl
    exact hnot ha
  · intro j hj
    rcases (hm j).1 hj with h1 | rfl
    · exact h.r j h1
    · exact hr
  · intro j hj; exact (hm j).2 (.inl (h.sub j hj))
  · intro a ha x hx j hj hq; exact (hm j).2 (.inl (h.kid a ha x hx j hj hq))
  · intro j hj hq
    rcases List.mem_append.1 hj with h1 | h1
    · exact (hm j).2 (.inl (h.now j h1 hq))
    · have : j = k := by simpa using h1
      exact (hm j).2 (.inr this)
theorem Rnd.next {t : TTab} {l out : List Int} {i : Nat} {a : Int} {now : List Int} (h : Rnd t l out i now) (ha : l[i]? = some a) (hx : ∀ x, nodeOf t.Inodes a = some x → kidsOf x = now) : Rnd t l out (i + 1) [] :=
  ⟨h.nd, h.r, h.sub, fun b hb x hx' k hk hp => by
    rw [List.take_add_one, ha] at hb
    rcases List.mem_append.1 hb with h1 | h1
    · exact h.kid b h1 x hx' k hk hp
    · have : b = a := by simpa using h1
      subst this
      rw [hx x hx'] at hk
      exact h.now k hk hp, fun k hk => by simp at hk⟩

set_option maxHeartbeats 4000000 in
theorem l7Next_ok (n : Nat) (hn : Big + 8 ≤ n) (t : TTab) (ht : t.ok) (hs : Small t) (l : List Int) (hnd : l.Nodup) (hr : ∀ k ∈ l, Rch t.Inodes k) : ∃ (c : CV) (L : List Int), (c = .sh true (.s 1 (L.map ipv)) ∨ c = .ow true 1 (L.map ipv)) ∧ Rnd t l L l.length [] ∧ pcall env n 86 [.c .agg (t.pv.map argC'), .c .one [.sh true (.s 1 (l.map ipv))]] [] = some ⟨.c .one [c], []⟩ := by
  obtain ⟨m, rfl⟩ := ex_pred hn
  have hB := big_bd
  have hbd : Bd = 1048576 := rfl
  have hll := rch_len hs hnd hr
  have hn30 := hs.n
  suffices h : @Wq _ (pcall env (m + 1) 86 [.c .agg (t.pv.map argC'), .c .one [.sh true (.s 1 (l.map ipv))]] []) ⟨fun r => ∃ (c : CV) (L : List Int), (c = .sh true (.s 1 (L.map ipv)) ∨ c = .ow true 1 (L.map ipv)) ∧ Rnd t l L l.length [] ∧ r = ⟨.c .one [c], []⟩⟩ by
    obtain ⟨r, h1, c, L, h2, h3, h4⟩ := h; exact ⟨c, L, h2, h3, by rw [h1, h4]⟩
  refine wq_pcall (fn := Tryz.f86) rfl rfl rfl (Nat.le_of_ble_eq_true rfl) ?_
  unfold Tryz.f86
  simp only [go_sem, Nat.reduceLT, Nat.reduceAdd, Nat.reduceSub, Nat.reduceEqDiff, Nat.reduceLeDiff, Int.reduceEq, Int.reduceBEq, Int.reduceBNe, Int.reduceNeg, UInt8.reduceToNat, Nat.reduceBEq]
  refine wq_loop_at (fun r σ => ∃ (i : Nat) (c : CV) (out : List Int), i ≤ l.length ∧ r = l.length - i ∧ (c = .sh true (.s 1 (out.map ipv)) ∨ c = .ow true 1 (out.map ipv)) ∧ Rnd t l out i [] ∧ σ = slots 59 [(1, .c .one [.sh true (.s 1 (l.map ipv))]), (2, .c .box [.sh true (.s 6 (t.Inodes.map TInode.pv)), .sh false (.i .i64 t.Next)]), (5, .c .one [c]), (6, .c .one [.sh false (.i .i64 (i : Nat))])]) l.length (by omega) ?_ ?_
  · simp only [go_sem, Nat.reduceLT, Nat.reduceAdd, Nat.reduceSub, Nat.reduceEqDiff, Nat.reduceLeDiff, Int.reduceEq, Int.reduceBEq, Int.reduceBNe, Int.reduceNeg, UInt8.reduceToNat, Nat.reduceBEq]
    exact ⟨0, _, l, Nat.zero_le _, rfl, .inl rfl, ⟨hnd, hr, fun k hk => hk, fun a ha => by simp at ha, fun k hk => by simp at hk⟩, rfl⟩
  · rintro r σ ⟨i, c, out, hi, rfl, hc, hrnd, rfl⟩
    by_cases hlt : i < l.length
    · have h1 : ((i : Int) < (l.length : Int)) := by omega
      have hx : l[i]? = some l[i] := List.getElem?_eq_getElem hlt
      generalize l[i] = a at hx
      have hat := inodeAtSpec_ok m (deep hn (by decide)) t ht a
      simp only [go_sem] at hat
      unfold atC at hat
      have hpr : ∀ (x : TInode) (k : Int), nodeOf t.Inodes a = some x → k ∈ kidsOf x → (nodeOf t.Inodes k).isSome = true → Rch t.Inodes k := fun x k hx' hk hp => .step a k x (hr a (List.mem_of_getElem? hx)) hx' hk hp
      cases hf : nodeOf t.Inodes a with
      | none =>
        have hf' := hf
        unfold nodeOf at hf
        rw [hf] at hat
        simp only [go_sem, nodeZ] at hat
        have hnext := hrnd.next hx (fun x hx' => by rw [hf'] at hx'; simp at hx')
        rcases hc with rfl | rfl
        · simp only [go_sem, Nat.reduceLT, Nat.reduceAdd, Nat.reduceSub, Nat.reduceEqDiff, Nat.reduceLeDiff, Int.reduceEq, Int.reduceBEq, Int.reduceBNe, Int.reduceNeg, UInt8.reduceToNat, Nat.reduceBEq, h1, hx, hat, ipv]
          refine chk (by kernel_rfl) ?_
          refine wq_loop_exit (by omega) ?_
          simp only [go_sem, Nat.reduceLT, Nat.reduceAdd, Nat.reduceSub, Nat.reduceEqDiff, Nat.reduceLeDiff, Int.reduceEq, Int.reduceBEq, Int.reduceBNe, Int.reduceNeg, UInt8.reduceToNat, Nat.reduceBEq, wrap_succ hlt (by omega)]
          exact ⟨_, by omega, i + 1, _, out, hlt, rfl, .inl rfl, hnext, rfl⟩
        · simp only [go_sem, Nat.reduceLT, Nat.reduceAdd, Nat.reduceSub, Nat.reduceEqDiff, Nat.reduceLeDiff, Int.reduceEq, Int.reduceBEq, Int.reduceBNe, Int.reduceNeg, UInt8.reduceToNat, Nat.reduceBEq, h1, hx, hat, ipv]
          refine chk (by kernel_rfl) ?_
          refine wq_loop_exit (by omega) ?_
          simp only [go_sem, Nat.reduceLT, Nat.reduceAdd, Nat.reduceSub, Nat.reduceEqDiff, Nat.reduceLeDiff, Int.reduceEq, Int.reduceBEq, Int.reduceBNe, Int.reduceNeg, UInt8.reduceToNat, Nat.reduceBEq, wrap_succ hlt (by omega)]
          exact ⟨_, by omega, i + 1, _, out, hlt, rfl, .inr rfl, hnext, rfl⟩
      | some x =>
        have hf' := hf
        obtain ⟨hmem, hino⟩ := nodeOf_mem hf
        have hel := hs.e x hmem
        unfold nodeOf at hf
        rw [hf] at hat
        simp only [go_sem, nodeC] at hat
        cases hk : (x.Kind == 2) with
        | false =>
          have hkid : kidsOf x = [] := by unfold kidsOf; rw [hk]
          have hnext := hrnd.next hx (fun y hy => by rw [hf'] at hy; injection hy with hy; subst hy; exact hkid)
          have he0 : (0 : Int) < (x.Ents.length : Int) ∨ ¬ (0 : Int) < (x.Ents.length : Int) := Classical.em _
          rcases hc with rfl | rfl
          · simp only [go_sem, Nat.reduceLT, Nat.reduceAdd, Nat.reduceSub, Nat.reduceEqDiff, Nat.reduceLeDiff, Int.reduceEq, Int.reduceBEq, Int.reduceBNe, Int.reduceNeg, UInt8.reduceToNat, Nat.reduceBEq, h1, hx, hat, ipv]
            refine chk (by kernel_rfl) ?_
            refine wq_loop_exit (by omega) ?_
            rcases he0 with h0 | h0
            · simp only [go_sem, Nat.reduceLT, Nat.reduceAdd, Nat.reduceSub, Nat.reduceEqDiff, Nat.reduceLeDiff, Int.reduceEq, Int.reduceBEq, Int.reduceBNe, Int.reduceNeg, UInt8.reduceToNat, Nat.reduceBEq, h0, hk, wrap_succ hlt (by omega)]
              exact ⟨_, by omega, i + 1, _, out, hlt, rfl, .inl rfl, hnext, rfl⟩
            · simp only [go_sem, Nat.reduceLT, Nat.reduceAdd, Nat.reduceSub, Nat.reduceEqDiff, Nat.reduceLeDiff, Int.reduceEq, Int.reduceBEq, Int.reduceBNe, Int.reduceNeg, UInt8.reduceToNat, Nat.reduceBEq, h0, hk, wrap_succ hlt (by omega)]
              exact ⟨_, by omega, i + 1, _, out, hlt, rfl, .inl rfl, hnext, rfl⟩
          · simp only [go_sem, Nat.reduceLT, Nat.reduceAdd, Nat.reduceSub, Nat.reduceEqDiff, Nat.reduceLeDiff, Int.reduceEq, Int.reduceBEq, Int.reduceBNe, Int.reduceNeg, UInt8.reduceToNat, Nat.reduceBEq, h1, hx, hat, ipv]
            refine chk (by kernel_rfl) ?_
            refine wq_loop_exit (by omega) ?_
            rcases he0 with h0 | h0
            · simp only [go_sem, Nat.reduceLT, Nat.reduceAdd, Nat.reduceSub, Nat.reduceEqDiff, Nat.reduceLeDiff, Int.reduceEq, Int.reduceBEq, Int.reduceBNe, Int.reduceNeg, UInt8.reduceToNat, Nat.reduceBEq, h0, hk, wrap_succ hlt (by omega)]
              exact ⟨_, by omega, i + 1, _, out, hlt, rfl, .inr rfl, hnext, rfl⟩
            · simp only [go_sem, Nat.reduceLT, Nat.reduceAdd, Nat.reduceSub, Nat.reduceEqDiff, Nat.reduceLeDiff, Int.reduceEq, Int.reduceBEq, Int.reduceBNe, Int.reduceNeg, UInt8.reduceToNat, Nat.reduceBEq, h0, hk, wrap_succ hlt (by omega)]
              exact ⟨_, by omega, i + 1, _, out, hlt, rfl, .inr rfl, hnext, rfl⟩
        | true =>
          have hkid : kidsOf x = x.Ents.map (·.Ino) := by unfold kidsOf; rw [hk]
          have hbx : x.Ents.length < m := by omega
          apply cut_here
          case main =>
            intro key
            rcases id hc with h9 | h9
            · simp only [go_sem, Nat.reduceLT, Nat.reduceAdd, Nat.reduceSub, Nat.reduceEqDiff, Nat.reduceLeDiff, Int.reduceEq, Int.reduceBEq, Int.reduceBNe, Int.reduceNeg, UInt8.reduceToNat, Nat.reduceBEq, h9, h1, hx, hat, ipv]
              refine chk (by kernel_rfl) ?_
              refine wq_loop_at (fun r' σ => ∃ (j : Nat) (c : CV) (out : List Int), j ≤ x.Ents.length ∧ r' = x.Ents.length - j ∧ (c = .sh true (.s 1 (out.map ipv)) ∨ c = .ow true 1 (out.map ipv)) ∧ Rnd t l out i ((x.Ents.take j).map (·.Ino)) ∧ σ = slots 59 [(1, .c .one [.sh true (.s 1 (l.map ipv))]), (2, .c .box [.sh true (.s 6 (t.Inodes.map TInode.pv)), .sh false (.i .i64 t.Next)]), (5, .c .one [c]), (6, .c .one [.sh false (.i .i64 (i : Nat))]), (7, .c .box [.sh false (.i .i64 x.Ino), .sh false (.i .i64 x.Kind), .sh false (.i .i64 x.Links), .ow true 1 (x.Data.map bpv), .ow true 2 (x.Ents.map TEnt.pv), .ow true 2 (x.Attrs.map TAttr.pv)]), (8, .c .one [.sh false (.b true)]), (9, .c .one [.sh false (.i .i64 (j : Nat))])]) x.Ents.length hbx ?_ key
              simp only [go_sem, Nat.reduceLT, Nat.reduceAdd, Nat.reduceSub, Nat.reduceEqDiff, Nat.reduceLeDiff, Int.reduceEq, Int.reduceBEq, Int.reduceBNe, Int.reduceNeg, UInt8.reduceToNat, Nat.reduceBEq]
              exact ⟨0, _, out, Nat.zero_le _, rfl, .inl rfl, hrnd, rfl⟩
            · simp only [go_sem, Nat.reduceLT, Nat.reduceAdd, Nat.reduceSub, Nat.reduceEqDiff, Nat.reduceLeDiff, Int.reduceEq, Int.reduceBEq, Int.reduceBNe, Int.reduceNeg, UInt8.reduceToNat, Nat.reduceBEq, h9, h1, hx, hat, ipv]
              refine chk (by kernel_rfl) ?_
              refine wq_loop_at (fun r' σ => ∃ (j : Nat) (c : CV) (out : List Int), j ≤ x.Ents.length ∧ r' = x.Ents.length - j ∧ (c = .sh true (.s 1 (out.map ipv)) ∨ c = .ow true 1 (out.map ipv)) ∧ Rnd t l out i ((x.Ents.take j).map (·.Ino)) ∧ σ = slots 59 [(1, .c .one [.sh true (.s 1 (l.map ipv))]), (2, .c .box [.sh true (.s 6 (t.Inodes.map TInode.pv)), .sh false (.i .i64 t.Next)]), (5, .c .one [c]), (6, .c .one [.sh false (.i .i64 (i : Nat))]), (7, .c .box [.sh false (.i .i64 x.Ino), .sh false (.i .i64 x.Kind), .sh false (.i .i64 x.Links), .ow true 1 (x.Data.map bpv), .ow true 2 (x.Ents.map TEnt.pv), .ow true 2 (x.Attrs.map TAttr.pv)]), (8, .c .one [.sh false (.b true)]), (9, .c .one [.sh false (.i .i64 (j : Nat))])]) x.Ents.length hbx ?_ key
              simp only [go_sem, Nat.reduceLT, Nat.reduceAdd, Nat.reduceSub, Nat.reduceEqDiff, Nat.reduceLeDiff, Int.reduceEq, Int.reduceBEq, Int.reduceBNe, Int.reduceNeg, UInt8.reduceToNat, Nat.reduceBEq]
              exact ⟨0, _, out, Nat.zero_le _, rfl, .inr rfl, hrnd, rfl⟩
          case pf =>
            rintro r' σ ⟨j, c, out, hj, rfl, hc, hrd, rfl⟩
            by_cases hlt2 : j < x.Ents.length
            · have h2 : ((j : Int) < (x.Ents.length : Int)) := by omega
              have hy : x.Ents[j]? = some x.Ents[j] := List.getElem?_eq_getElem hlt2
              generalize x.Ents[j] = e at hy
              have hl4 := l4At_ok m (deep hn (by decide)) t ht e.Ino
              have hpg := place_ge (l := t.Inodes) (k := e.Ino)
              simp only [go_sem] at hl4
              have htk : (x.Ents.take (j + 1)).map (·.Ino) = (x.Ents.take j).map (·.Ino) ++ [e.Ino] := by rw [List.take_add_one, hy]; simp
              have hin : e.Ino ∈ kidsOf x := by rw [hkid]; exact List.mem_map.2 ⟨e, List.mem_of_getElem? hy, rfl⟩
              cases hpl : (nodeOf t.Inodes e.Ino).isSome with
              | false =>
                have hnone := hrd.none hpl
                rw [← htk] at hnone
                rw [hpl] at hpg
                rcases hc with rfl | rfl <;>
                · simp only [go_sem, Nat.reduceLT, Nat.reduceAdd, Nat.reduceSub, Nat.reduceEqDiff, Nat.reduceLeDiff, Int.reduceEq, Int.reduceBEq, Int.reduceBNe, Int.reduceNeg, UInt8.reduceToNat, Nat.reduceBEq, h2, hk, hy, hl4, hpg, wrap_succ hlt2 (by omega)]
                  exact chk (by kernel_rfl) ⟨_, by omega, j + 1, _, out, hlt2, rfl, (by first | exact .inl rfl | exact .inr rfl), hnone, rfl⟩
              | true =>
                rw [hpl] at hpg
                obtain ⟨c', hc', hput⟩ := l7Put_ok m (deep hn (by decide)) out (by have := rch_len hs hrd.nd hrd.r; omega) e.Ino
                simp only [go_sem] at hput
                rcases hc' with ⟨rfl, hb⟩ | ⟨hb, p, rfl, hp⟩
                · have hhas := hrd.has (has_iff.1 hb)
                  rw [← htk] at hhas
                  rcases hc with rfl | rfl <;>
                  · simp only [go_sem, Nat.reduceLT, Nat.reduceAdd, Nat.reduceSub, Nat.reduceEqDiff, Nat.reduceLeDiff, Int.reduceEq, Int.reduceBEq, Int.reduceBNe, Int.reduceNeg, UInt8.reduceToNat, Nat.reduceBEq, h2, hk, hy, hl4, hpg, hput, wrap_succ hlt2 (by omega)]
                    exact chk (by kernel_rfl) ⟨_, by omega, j + 1, .sh true (.s 1 (out.map ipv)), out, hlt2, rfl, .inl rfl, hhas, rfl⟩
                · have hadd := hrd.add (hpr x _ hf' hin hpl) hb (hole_perm out p e.Ino)
                  rw [← htk] at hadd
                  rcases hc with rfl | rfl <;>
                  · simp only [go_sem, Nat.reduceLT, Nat.reduceAdd, Nat.reduceSub, Nat.reduceEqDiff, Nat.reduceLeDiff, Int.reduceEq, Int.reduceBEq, Int.reduceBNe, Int.reduceNeg, UInt8.reduceToNat, Nat.reduceBEq, h2, hk, hy, hl4, hpg, hput, wrap_succ hlt2 (by omega)]
                    exact chk (by kernel_rfl) ⟨_, by omega, j + 1, .ow true 1 ((holeL out p e.Ino).map ipv), holeL out p e.Ino, hlt2, rfl, .inr rfl, hadd, rfl⟩
            · have h2 : ¬ ((j : Int) < (x.Ents.length : Int)) := by omega
              obtain rfl : j = x.Ents.length := by omega
              rw [List.take_length] at hrd
              have hnext := hrd.next hx (fun y hy => by rw [hf'] at hy; injection hy with hy; subst hy; exact hkid)
              rcases hc with rfl | rfl <;>
              · simp only [go_sem, Nat.reduceLT, Nat.reduceAdd, Nat.reduceSub, Nat.reduceEqDiff, Nat.reduceLeDiff, Int.reduceEq, Int.reduceBEq, Int.reduceBNe, Int.reduceNeg, UInt8.reduceToNat, Nat.reduceBEq, h2, hk, wrap_succ hlt (by omega)]
                exact ⟨_, by omega, i + 1, _, out, hlt, rfl, (by first | exact .inl rfl | exact .inr rfl), hnext, rfl⟩
    · have h1 : ¬ ((i : Int) < (l.length : Int)) := by omega
      obtain rfl : i = l.length := by omega
      rcases hc with rfl | rfl <;>
      · simp only [go_sem, Nat.reduceLT, Nat.reduceAdd, Nat.reduceSub, Nat.reduceEqDiff, Nat.reduceLeDiff, Int.reduceEq, Int.reduceBEq, Int.reduceBNe, Int.reduceNeg, UInt8.reduceToNat, Nat.reduceBEq, h1]
        exact ⟨_, out, (by first | exact .inl rfl | exact .inr rfl), hrnd, rfl⟩

end Go.Proofs.YticgilhndadkiaaGreatDoor.R
