/- What an image needs, as the reference tells it. -/
import Derived.Test.YtblelojdboefjaaGreatNg
import Derived.Test.YtblelojdboefjaaGreatNd
set_option maxRecDepth 100000
set_option linter.unusedVariables false
set_option linter.unusedSimpArgs false
namespace Go.Proofs.YtblelojdboefjaaGreat.R
open Go

/-- A number is put among others, if it is none below nothing. -/
def PutL (l : List Int) (k : Int) (r : List Int) : Prop := (r = l ∧ (k < 0 ∨ k ∈ l)) ∨ (¬ k < 0 ∧ k ∉ l ∧ r.Perm (k :: l))
theorem hasB_mem {l : List Int} {k : Int} : hasB l k = true ↔ k ∈ l := by
  unfold hasB
  rw [List.any_eq_true]
  constructor
  · rintro ⟨x, hx, e⟩
    have : x = k := by simpa using e
    subst this; exact hx
  · intro h; exact ⟨k, h, by simp⟩

theorem l18Put_ok (n : Nat) (hn : Big + 4 ≤ n) (l : List Int) (hl : l.length ≤ 4398046511104) (k : Int) : ∃ (c : CV) (r : List Int), (c = .sh true (.s 1 (r.map ipv)) ∨ c = .ow true 1 (r.map ipv)) ∧ PutL l k r ∧ pcall env n 30 [.c .one [.sh true (.s 1 (l.map ipv))], .c .one [.sh false (.i .i64 k)]] [] = some ⟨.c .one [c], []⟩ := by
  obtain ⟨m, rfl⟩ := ex_pred hn
  obtain ⟨c0, hc0, hp⟩ := l7Put_ok m (deep hn (by decide)) l hl k
  simp only [go_sem] at hp
  suffices H : @Wq _ (pcall env (m + 1) 30 [.c .one [.sh true (.s 1 (l.map ipv))], .c .one [.sh false (.i .i64 k)]] []) ⟨fun q => ∃ (c : CV) (r : List Int), (c = .sh true (.s 1 (r.map ipv)) ∨ c = .ow true 1 (r.map ipv)) ∧ PutL l k r ∧ q = ⟨.c .one [c], []⟩⟩ by
    obtain ⟨q, h1, c, r, h2, h3, h4⟩ := H
    exact ⟨c, r, h2, h3, by rw [h1, h4]⟩
  refine wq_pcall (fn := Tryz.f30) rfl rfl rfl (Nat.le_of_ble_eq_true rfl) ?_
  unfold Tryz.f30
  simp only [go_sem, Nat.reduceLT, Nat.reduceAdd, Nat.reduceSub, Nat.reduceEqDiff, Nat.reduceLeDiff, Int.reduceEq, Int.reduceBEq, Int.reduceBNe, Int.reduceNeg, UInt8.reduceToNat, Nat.reduceBEq]
  refine bq_mk (fun h => ?_) (fun h => ?_)
  · simp only [go_sem, Nat.reduceLT, Nat.reduceAdd, Nat.reduceSub, Nat.reduceEqDiff, Nat.reduceLeDiff, Int.reduceEq, Int.reduceBEq, Int.reduceBNe, Int.reduceNeg, UInt8.reduceToNat, Nat.reduceBEq]
    exact ⟨_, l, .inl rfl, .inl ⟨rfl, .inl h⟩, rfl⟩
  · rcases hc0 with ⟨rfl, hb⟩ | ⟨hb, p, rfl, hpl⟩
    · simp only [go_sem, Nat.reduceLT, Nat.reduceAdd, Nat.reduceSub, Nat.reduceEqDiff, Nat.reduceLeDiff, Int.reduceEq, Int.reduceBEq, Int.reduceBNe, Int.reduceNeg, UInt8.reduceToNat, Nat.reduceBEq, hp]
      exact ⟨_, l, .inl rfl, .inl ⟨rfl, .inr (hasB_mem.1 hb)⟩, rfl⟩
    · simp only [go_sem, Nat.reduceLT, Nat.reduceAdd, Nat.reduceSub, Nat.reduceEqDiff, Nat.reduceLeDiff, Int.reduceEq, Int.reduceBEq, Int.reduceBNe, Int.reduceNeg, UInt8.reduceToNat, Nat.reduceBEq, hp]
      exact ⟨_, holeL l p k, .inr rfl, .inr ⟨h, fun hm => by rw [hasB_mem.2 hm] at hb; simp at hb, (hole_perm l p k).trans (List.perm_append_singleton k l)⟩, rfl⟩

/-- The numbers that are there: each once, those of the list that are not below nothing. -/
def KeptL (all out : List Int) : Prop := out.Nodup ∧ ∀ z, z ∈ out ↔ z ∈ all ∧ ¬ z < 0
theorem KeptL.nil : KeptL [] [] := ⟨List.nodup_nil, fun z => by simp⟩
theorem KeptL.put {all out r : List Int} {k : Int} (h : KeptL all out) (hp : PutL out k r) : KeptL (all ++ [k]) r := by
  rcases hp with ⟨rfl, hk⟩ | ⟨hk, hm, hpm⟩
  · refine ⟨h.1, fun z => ?_⟩
    rw [h.2 z, List.mem_append, List.mem_singleton]
    constructor
    · rintro ⟨h1, h2⟩; exact ⟨.inl h1, h2⟩
    · rintro ⟨h1 | rfl, h2⟩
      · exact ⟨h1, h2⟩
      · rcases hk with hk | hk
        · exact absurd hk h2
        · exact (h.2 _).1 hk
  · refine ⟨hpm.nodup_iff.2 (List.nodup_cons.2 ⟨hm, h.1⟩), fun z => ?_⟩
    rw [hpm.mem_iff, List.mem_cons, h.2 z, List.mem_append, List.mem_singleton]
    constructor
    · rintro (rfl | ⟨h1, h2⟩)
      · exact ⟨.inr rfl, hk⟩
      · exact ⟨.inl h1, h2⟩
    · rintro ⟨h1 | rfl, h2⟩
      · exact .inr ⟨h1, h2⟩
      · exact .inl rfl
theorem nodup_len {α : Type} [BEq α] [LawfulBEq α] : ∀ {L M : List α}, L.Nodup → (∀ a ∈ L, a ∈ M) → L.length ≤ M.length
  | [], _, _, _ => Nat.zero_le _
  | a :: L, M, hn, hm => by
    have ha := hm a (by simp)
    have h2 : L.length ≤ (M.erase a).length := nodup_len (List.nodup_cons.1 hn).2 fun b hb => by
      refine (List.mem_erase_of_ne ?_).2 (hm b (by simp [hb]))
      rintro rfl
      exact (List.nodup_cons.1 hn).1 hb
    have h3 := List.length_erase_of_mem ha
    have h4 : 0 < M.length := List.length_pos_of_mem ha
    simp only [List.length_cons]
    omega
theorem KeptL.len {all out : List Int} (h : KeptL all out) : out.length ≤ all.length := by
  exact nodup_len h.1 fun z hz => ((h.2 z).1 hz).1
theorem KeptL.perm {all all' out out' : List Int} (h : KeptL all out) (h' : KeptL all' out') (hm : ∀ z, z ∈ all ↔ z ∈ all') : out.Perm out' :=
  (List.perm_ext_iff_of_nodup h.1 h'.1).2 fun z => by rw [h.2, h'.2, hm]
end Go.Proofs.YtblelojdboefjaaGreat.R
