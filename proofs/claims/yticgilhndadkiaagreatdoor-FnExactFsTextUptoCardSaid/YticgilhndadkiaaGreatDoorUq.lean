/- What TreeOk says of a table. -/
import Derived.Test.YticgilhndadkiaaGreatDoorUp
set_option maxRecDepth 100000
set_option linter.unusedVariables false
set_option linter.unusedSimpArgs false
namespace Go.Proofs.YticgilhndadkiaaGreatDoor.R
open Go

theorem tree_parts {t : TTab} (h : treeB t = true) : tabI t = true ∧ (∀ x ∈ t.Inodes, inodeB x = true ∧ ((linksL t.Inodes x.Ino : Nat) : Int) = x.Links ∧ entsIn t.Inodes x = true) := by
  unfold treeB at h
  simp only [Bool.and_eq_true] at h
  refine ⟨h.1.1, fun x hx => ?_⟩
  obtain ⟨i, hi⟩ := List.getElem?_of_mem hx
  have hlt := (List.getElem?_eq_some_iff.1 hi).1
  have h1 := allB_get h.2 hlt
  unfold treeAt treeOne at h1
  rw [hi] at h1
  simp only [Bool.and_eq_true, beq_iff_eq] at h1
  have h0 := h.1.1
  unfold tabI at h0
  simp only [Bool.and_eq_true] at h0
  have h2 := h0.1.2
  unfold nodesB at h2
  have h3 := allB_get h2 hlt
  unfold nodeAt nodeOne at h3
  rw [hi] at h3
  simp only [Bool.and_eq_true] at h3
  exact ⟨h3.1.1, h1.1, h1.2⟩
theorem inode_dir {x : TInode} (h : inodeB x = true) (he : x.Ents ≠ []) : (x.Kind == 2) = true ∧ x.Links ≤ 1 := by
  unfold inodeB at h
  simp only [Bool.and_eq_true] at h
  have hk := h.2
  unfold kindB at hk
  split at hk
  · rename_i h1
    have : x.Ents.length = 0 := by simpa using hk
    exact absurd (List.length_eq_zero_iff.1 this) he
  · split at hk
    · rename_i h2
      simp only [Bool.and_eq_true, decide_eq_true_eq] at hk
      exact ⟨h2, hk.2⟩
    · simp at hk
theorem inode_root {x : TInode} (h : inodeB x = true) (h1 : x.Ino = 1) : x.Links = 0 := by
  unfold inodeB at h
  simp only [Bool.and_eq_true] at h
  have := h.1.1.1.1.2.2
  rw [h1] at this
  simpa using this
theorem links_in {l : List TInode} {x : TInode} {d : Int} (hx : x ∈ l) : linksX x d ≤ linksL l d := by
  unfold linksL
  induction l with
  | nil => simp at hx
  | cons a l ih =>
    simp only [List.map_cons, List.sum_cons]
    rcases List.mem_cons.1 hx with rfl | hx
    · omega
    · have := ih hx; omega
theorem links_two {l : List TInode} {x y : TInode} {d : Int} (hx : x ∈ l) (hy : y ∈ l) (hne : x.Ino ≠ y.Ino) : linksX x d + linksX y d ≤ linksL l d := by
  unfold linksL
  induction l with
  | nil => simp at hx
  | cons a l ih =>
    simp only [List.map_cons, List.sum_cons]
    rcases List.mem_cons.1 hx with rfl | hx2
    · rcases List.mem_cons.1 hy with rfl | hy2
      · exact absurd rfl hne
      · have := links_in (d := d) hy2; unfold linksL at this; omega
    · rcases List.mem_cons.1 hy with rfl | hy2
      · have := links_in (d := d) hx2; unfold linksL at this; omega
      · have := ih hx2 hy2; omega
theorem linksE_count (es : List TEnt) (d : Int) : linksE es d = (es.map (·.Ino)).count d := by
  unfold linksE
  rw [List.count_eq_countP, List.countP_map]
  congr 1
/-- How often a number's entries lead to another one. -/
theorem own_links {t : TTab} (h : treeB t = true) {y d : Int} (hd : d ∈ own t.Inodes y) : ∃ x ∈ t.Inodes, x.Ino = y ∧ (own t.Inodes y).count d = linksX x d := by
  unfold own entsOf at hd ⊢
  cases hx : nodeOf t.Inodes y with
  | none => rw [hx] at hd; simp at hd
  | some x =>
    rw [hx] at hd
    obtain ⟨h1, h2⟩ := nodeOf_mem hx
    refine ⟨x, h1, h2, ?_⟩
    have hne : x.Ents ≠ [] := fun e => by simp only [e] at hd; simp at hd
    rw [linksX_1 (inode_dir ((tree_parts h).2 x h1).1 hne).1, linksE_count]
theorem dir_one {t : TTab} (h : treeB t = true) {d : Int} (hd : own t.Inodes d ≠ []) : linksL t.Inodes d ≤ 1 := by
  unfold own entsOf at hd
  cases hx : nodeOf t.Inodes d with
  | none => rw [hx] at hd; simp at hd
  | some x =>
    rw [hx] at hd
    obtain ⟨h1, h2⟩ := nodeOf_mem hx
    have hne : x.Ents ≠ [] := fun e => hd (by simp only [e]; rfl)
    obtain ⟨q1, q2, _⟩ := (tree_parts h).2 x h1
    have := (inode_dir q1 hne).2
    rw [h2] at q2
    omega
theorem tree_of {t : TTab} (h : treeB t = true) : Tree t.Inodes := by
  have hs := small_of (tree_parts h).1
  refine ⟨fun d y hd => ?_, fun d y z hd hy hz => ?_, fun y hy => ?_, hs.n, fun y => ?_⟩
  · by_cases hm : d ∈ own t.Inodes y
    · obtain ⟨x, hx, _, hc⟩ := own_links h hm
      have h1 := links_in (d := d) hx
      have h2 := dir_one h hd
      omega
    · rw [List.count_eq_zero.2 hm]; omega
  · obtain ⟨a, ha, hay, hca⟩ := own_links h hy
    obtain ⟨b, hb, hbz, hcb⟩ := own_links h hz
    have h1 := List.count_pos_iff.2 hy
    have h2 := List.count_pos_iff.2 hz
    have h3 := dir_one h hd
    refine Classical.byContradiction fun hne => ?_
    have := links_two (d := d) ha hb (by rw [hay, hbz]; exact hne)
    omega
  · obtain ⟨a, ha, hay, hca⟩ := own_links h hy
    have h1 := List.count_pos_iff.2 hy
    have h2 := links_in (d := 1) ha
    have h0 := (tree_parts h).1
    unfold tabI rootI at h0
    simp only [Bool.and_eq_true] at h0
    have h3 := h0.2
    cases hr : t.Inodes.find? (fun x => x.Ino == 1) with
    | none => rw [hr] at h3; simp at h3
    | some r =>
      obtain ⟨q1, q2⟩ := nodeOf_mem (l := t.Inodes) (k := 1) hr
      obtain ⟨q3, q4, _⟩ := (tree_parts h).2 r q1
      rw [q2] at q4
      have := inode_root q3 q2
      omega
  · unfold own entsOf
    cases hx : nodeOf t.Inodes y with
    | none => simp
    | some x => rw [List.length_map]; exact hs.e x (nodeOf_mem hx).1

/-- The paths below entries, f steps deep. -/
def pathsN (l : List TInode) : Nat → List TEnt → List UInt8 → List (List UInt8)
  | 0, _, _ => []
  | f + 1, es, p => es.flatMap fun e => (p ++ [47] ++ e.Name.toList) :: pathsN l f (entsOf l e.Ino) (p ++ [47] ++ e.Name.toList)
/-- Paths below entries lie at most f steps deep; of no level are there many. -/
structure Flat' (l : List TInode) (f : Nat) (s : List Int) : Prop where
  low : lv l f s = []
  wide : ∀ k, (lv l k s).length ≤ 300
def cntN (l : List TInode) : Nat → List Int → Nat
  | 0, _ => 0
  | f + 1, s => (s.map fun d => 1 + cntN l f (own l d)).sum
theorem cnt_append (l : List TInode) : ∀ (f : Nat) (a b : List Int), cntN l f (a ++ b) = cntN l f a + cntN l f b
  | 0, a, b => rfl
  | f + 1, a, b => by simp [cntN]
theorem cnt_flat (l : List TInode) (f : Nat) : ∀ s : List Int, cntN l (f + 1) s = s.length + cntN l f (s.flatMap (own l))
  | [] => by cases f <;> simp [cntN]
  | a :: s => by
    have := cnt_flat l f s
    simp only [cntN, List.map_cons, List.sum_cons, List.length_cons, List.flatMap_cons, cnt_append] at this ⊢
    omega
theorem cnt_le (l : List TInode) : ∀ (f : Nat) (s : List Int), (∀ k, (lv l k s).length ≤ 300) → cntN l f s ≤ f * 300
  | 0, s, _ => Nat.le_refl 0
  | f + 1, s, h => by
    rw [cnt_flat]
    have h1 := h 0
    have h2 := cnt_le l f (s.flatMap (own l)) fun k => h (k + 1)
    simp only [lv] at h1
    omega
theorem paths_len (l : List TInode) : ∀ (f : Nat) (es : List TEnt) (p : List UInt8), (pathsN l f es p).length = cntN l f (es.map (·.Ino))
  | 0, es, p => rfl
  | f + 1, es, p => by
    simp only [pathsN, cntN, List.length_flatMap, List.map_map]
    congr 1
    refine List.map_congr_left fun e _ => ?_
    have := paths_len l f (entsOf l e.Ino) (p ++ [47] ++ e.Name.toList)
    simp only [List.length_cons, Function.comp, this, own]
    omega

end Go.Proofs.YticgilhndadkiaaGreatDoor.R
