/- Texts in order. -/
import Derived.Test.YticgilhndadkiaaGreatDoorUs
set_option maxRecDepth 100000
set_option linter.unusedVariables false
set_option linter.unusedSimpArgs false
namespace Go.Proofs.YticgilhndadkiaaGreatDoor.R
open Go

/-- The model's order of texts is the lists' own. -/
theorem less_eq : ∀ (x y : List UInt8), Op.bytesLess x y = decide (x < y)
  | [], [] => by simp [Op.bytesLess]
  | _ :: _, [] => by simp [Op.bytesLess]
  | [], _ :: _ => by simp [Op.bytesLess]
  | a :: x, b :: y => by
    rw [Op.bytesLess, less_eq x y]
    simp only [List.cons_lt_cons_iff]
    by_cases h1 : a < b <;> by_cases h2 : a = b <;> by_cases h3 : x < y <;> simp [h1, h2, h3]
theorem leq_eq (x y : List UInt8) : (Op.bytesLess x y || x == y) = decide (x ≤ y) := by
  rw [less_eq]
  by_cases h : x < y
  · have : x ≤ y := List.le_of_lt h
    simp [h, this]
  · by_cases h2 : x = y
    · subst h2; simp [List.le_refl]
    · have : ¬ x ≤ y := fun h3 => h2 (List.le_antisymm h3 h)
      simp [h, h2, this]
abbrev Ord (l : List (List UInt8)) : Prop := l.Pairwise (fun a b => a ≤ b)
theorem ord_perm {l m : List (List UInt8)} (h1 : Ord l) (h2 : Ord m) (p : l.Perm m) : l = m :=
  List.Perm.eq_of_pairwise (le := fun a b => a ≤ b) (fun a b _ _ h h' => List.le_antisymm h h') h1 h2 p
theorem sortTexts_ord (l : List (List UInt8)) : Ord (sortTexts l) := by
  unfold sortTexts
  have := List.pairwise_mergeSort (le := fun (x y : List UInt8) => decide (x ≤ y)) (fun a b c h1 h2 => by simp only [decide_eq_true_eq] at h1 h2 ⊢; exact List.le_trans h1 h2) (fun a b => by simpa using List.le_total a b) l
  exact this.imp fun h => by simpa using h
theorem sortTexts_perm (l : List (List UInt8)) : (sortTexts l).Perm l := List.mergeSort_perm l _
theorem sortTexts_len (l : List (List UInt8)) : (sortTexts l).length = l.length := (sortTexts_perm l).length_eq
theorem ord_sort {l m : List (List UInt8)} (h1 : Ord m) (p : m.Perm l) : m = sortTexts l :=
  ord_perm h1 (sortTexts_ord l) (p.trans (sortTexts_perm l).symm)
/-- A text that is put in where it belongs. -/
theorem ord_hole {S : List (List UInt8)} (h : Ord S) {k : Nat} {x : List UInt8} (hk : k ≤ S.length) (hd : ∀ y ∈ S.drop k, x ≤ y) (ht : ∀ j a, k = j + 1 → S[j]? = some a → a ≤ x) : Ord (holeL S k x) := by
  unfold holeL Ord
  have hsp : Ord (S.take k ++ S.drop k) := by rw [List.take_append_drop]; exact h
  rw [Ord, List.pairwise_append] at hsp
  have hbelow : ∀ a ∈ S.take k, a ≤ x := fun a ha => by
    cases k with
    | zero => simp at ha
    | succ j =>
      have hj : S[j]? = some S[j] := List.getElem?_eq_getElem (by omega)
      have hlast := ht j _ rfl hj
      rw [List.take_add_one, hj] at ha hsp
      rcases List.mem_append.1 ha with h1 | h1
      · have := (List.pairwise_append.1 hsp.1).2.2 a h1 S[j] (by simp)
        exact List.le_trans this hlast
      · have : a = S[j] := by simpa using h1
        rw [this]; exact hlast
  rw [List.pairwise_append]
  refine ⟨hsp.1, List.pairwise_cons.2 ⟨hd, hsp.2.1⟩, fun a ha b hb => ?_⟩
  rcases List.mem_cons.1 hb with rfl | hb
  · exact hbelow a ha
  · exact hsp.2.2 a ha b hb
theorem texts_map : ∀ l : List (List UInt8), texts? (l.map ppv) = some l
  | [] => rfl
  | p :: l => by simp [texts?, ppv, texts_map l]
theorem set_ppv {l : List (List UInt8)} {j : Nat} {a : List UInt8} : (l.map ppv).set j [.t ⟨⟨a⟩⟩] = (l.set j a).map ppv := by
  rw [List.map_set]; rfl

end Go.Proofs.YticgilhndadkiaaGreatDoor.R
