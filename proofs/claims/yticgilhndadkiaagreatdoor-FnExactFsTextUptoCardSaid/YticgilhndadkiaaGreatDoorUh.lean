/- The inodes that are reached: plain facts. -/
import Derived.Test.YticgilhndadkiaaGreatDoorUg
set_option maxRecDepth 100000
set_option linter.unusedVariables false
set_option linter.unusedSimpArgs false
namespace Go.Proofs.YticgilhndadkiaaGreatDoor.R
open Go

def nodeOf (l : List TInode) (k : Int) : Option TInode := l.find? fun x => x.Ino == k
def kidsOf (x : TInode) : List Int := match x.Kind == 2 with
  | true => x.Ents.map (·.Ino)
  | false => []
/-- A number that is reached from 1 by entries of directories. -/
inductive Rch (l : List TInode) : Int → Prop
  | root : (nodeOf l 1).isSome = true → Rch l 1
  | step (a k : Int) (x : TInode) : Rch l a → nodeOf l a = some x → k ∈ kidsOf x → (nodeOf l k).isSome = true → Rch l k
theorem Rch.placed {l : List TInode} {k : Int} (h : Rch l k) : (nodeOf l k).isSome = true := by
  cases h <;> assumption
/-- A list of what is reached: all of it, nothing twice. -/
structure Full (l : List TInode) (L : List Int) : Prop where
  nd : L.Nodup
  mem : ∀ k, k ∈ L ↔ Rch l k
theorem nodup_len {α : Type} [BEq α] [LawfulBEq α] : ∀ {L M : List α}, L.Nodup → (∀ a ∈ L, a ∈ M) → L.length ≤ M.length
  | [], _, _, _ => Nat.zero_le _
  | a :: L, M, hn, hm => by
    have ha := hm a (by simp)
    have h2 : L.length ≤ (M.erase a).length := nodup_len (List.nodup_cons.1 hn).2 fun b hb => by
      refine (List.mem_erase_of_ne ?_).2 (hm b (by simp [hb]))
      rintro rfl
      exact (List.nodup_cons.1 hn).1 hb
    have h3 := List.length_erase_of_mem ha
    have h4 : 0 < M.length := List.length_pos_of_mem ha
    simp only [List.length_cons]
    omega
theorem Full.len {l : List TInode} {L M : List Int} (h : Full l L) (h' : Full l M) : L.length = M.length :=
  Nat.le_antisymm (nodup_len h.nd fun a ha => (h'.mem a).2 ((h.mem a).1 ha)) (nodup_len h'.nd fun a ha => (h.mem a).2 ((h'.mem a).1 ha))
theorem Full.perm {l : List TInode} {L M : List Int} (h : Full l L) (p : M.Perm L) : Full l M :=
  ⟨p.nodup_iff.2 h.nd, fun k => p.mem_iff.trans (h.mem k)⟩
theorem has_iff {l : List Int} {k : Int} : hasB l k = true ↔ k ∈ l := by
  unfold hasB
  simp
theorem nodeOf_mem {l : List TInode} {k : Int} {x : TInode} (h : nodeOf l k = some x) : x ∈ l ∧ x.Ino = k := by
  unfold nodeOf at h
  exact ⟨List.mem_of_find?_eq_some h, by simpa using List.find?_some h⟩

/-- What is not reached yet: how many entries it has. -/
def remL (l : List TInode) (out : List Int) : Nat := (l.map fun x => match hasB out x.Ino with
  | true => 0
  | false => x.Ents.length).sum
theorem has_snoc {out : List Int} {k j : Int} : hasB (out ++ [k]) j = (hasB out j || k == j) := by
  unfold hasB; simp
theorem rem_le (l : List TInode) (out : List Int) (k : Int) : remL l (out ++ [k]) ≤ remL l out := by
  unfold remL
  induction l with
  | nil => exact Nat.le_refl _
  | cons x l ih =>
    simp only [List.map_cons, List.sum_cons, has_snoc] at ih ⊢
    cases hasB out x.Ino <;> cases k == x.Ino <;> simp <;> omega
theorem rem_lt {l : List TInode} {out : List Int} {x : TInode} (hx : x ∈ l) (h : hasB out x.Ino = false) : remL l (out ++ [x.Ino]) + x.Ents.length ≤ remL l out := by
  induction l with
  | nil => simp at hx
  | cons y l ih =>
    have hle := rem_le l out x.Ino
    unfold remL at hle ih ⊢
    simp only [List.map_cons, List.sum_cons, has_snoc]
    rcases List.mem_cons.1 hx with rfl | hx
    · simp [h]; simp only [has_snoc] at hle; omega
    · have := ih hx
      simp only [has_snoc] at this
      cases hasB out y.Ino <;> cases x.Ino == y.Ino <;> simp <;> omega
theorem rem_bd {l : List TInode} {m : Nat} (h : ∀ x ∈ l, x.Ents.length ≤ m) (out : List Int) : remL l out ≤ l.length * m := by
  induction l with
  | nil => simp [remL]
  | cons x l ih =>
    have h1 := ih fun y hy => h y (by simp [hy])
    have h2 := h x (by simp)
    unfold remL at h1 ⊢
    simp only [List.map_cons, List.sum_cons, List.length_cons, Nat.succ_mul]
    cases hasB out x.Ino <;> simp <;> omega
theorem kids_len (x : TInode) : (kidsOf x).length ≤ x.Ents.length := by
  unfold kidsOf; split <;> simp

/-- What has been reached, what is to be looked at next. -/
structure Bfs (l : List TInode) (out next : List Int) : Prop where
  nd : out.Nodup
  got : ∀ k ∈ out, Rch l k
  todo : ∀ k ∈ next, (nodeOf l k).isSome = true → Rch l k
  shut : ∀ a ∈ out, ∀ x, nodeOf l a = some x → ∀ k ∈ kidsOf x, (nodeOf l k).isSome = true → k ∈ out ∨ k ∈ next
  root : (nodeOf l 1).isSome = true → 1 ∈ out ∨ 1 ∈ next
theorem Bfs.start (l : List TInode) : Bfs l [] [1] where
  nd := List.nodup_nil
  got := fun k h => by simp at h
  todo := fun k h hk => by
    have : k = 1 := by simpa using h
    subst this
    exact .root hk
  shut := fun a h => by simp at h
  root := fun _ => .inr (by simp)
theorem Bfs.skip {l : List TInode} {out next : List Int} {k : Int} (h : Bfs l out (k :: next)) (hk : (nodeOf l k).isSome = true → hasB out k = true) : Bfs l out next where
  nd := h.nd
  got := h.got
  todo := fun j hj hp => h.todo j (by simp [hj]) hp
  shut := fun a ha x hx j hj hp => by
    rcases h.shut a ha x hx j hj hp with h1 | h1
    · exact .inl h1
    · rcases List.mem_cons.1 h1 with rfl | h1
      · exact .inl (has_iff.1 (hk hp))
      · exact .inr h1
  root := fun hp => by
    rcases h.root hp with h1 | h1
    · exact .inl h1
    · rcases List.mem_cons.1 h1 with h2 | h1
      · rw [← h2] at hk; exact .inl (has_iff.1 (hk hp))
      · exact .inr h1
theorem Bfs.take {l : List TInode} {out next : List Int} {k : Int} {x : TInode} (h : Bfs l out (k :: next)) (hx : nodeOf l k = some x) (hk : hasB out k = false) : Bfs l (out ++ [k]) (next ++ kidsOf x) := by
  have hr : Rch l k := h.todo k (by simp) (by rw [hx]; rfl)
  have hnot : ¬ k ∈ out := fun e => by rw [has_iff.2 e] at hk; simp at hk
  refine ⟨?_, ?_, ?_, ?_, ?_⟩
  · rw [List.nodup_append]
    refine ⟨h.nd, by simp, fun a ha b hb => ?_⟩
    have : b = k := by simpa using hb
    subst this
    rintro rfl
    exact hnot ha
  · intro j hj
    rcases List.mem_append.1 hj with h1 | h1
    · exact h.got j h1
    · have : j = k := by simpa using h1
      subst this; exact hr
  · intro j hj hp
    rcases List.mem_append.1 hj with h1 | h1
    · exact h.todo j (by simp [h1]) hp
    · exact .step k j x hr hx h1 hp
  · intro a ha y hy j hj hp
    rcases List.mem_append.1 ha with h1 | h1
    · rcases h.shut a h1 y hy j hj hp with h2 | h2
      · exact .inl (List.mem_append.2 (.inl h2))
      · rcases List.mem_cons.1 h2 with rfl | h2
        · exact .inl (List.mem_append.2 (.inr (by simp)))
        · exact .inr (List.mem_append.2 (.inl h2))
    · have : a = k := by simpa using h1
      subst this
      rw [hx] at hy
      injection hy with hy; subst hy
      exact .inr (List.mem_append.2 (.inr hj))
  · intro hp
    rcases h.root hp with h1 | h1
    · exact .inl (List.mem_append.2 (.inl h1))
    · rcases List.mem_cons.1 h1 with h2 | h1
      · exact .inl (List.mem_append.2 (.inr (by simp [h2])))
      · exact .inr (List.mem_append.2 (.inl h1))
theorem Bfs.full {l : List TInode} {out : List Int} (h : Bfs l out []) : Full l out := by
  refine ⟨h.nd, fun k => ⟨h.got k, fun hr => ?_⟩⟩
  induction hr with
  | root hp => exact (h.root hp).resolve_right (by simp)
  | step a k x _ hx hk hp ih => exact (h.shut a ih x hx k hk hp).resolve_right (by simp)

end Go.Proofs.YticgilhndadkiaaGreatDoor.R
