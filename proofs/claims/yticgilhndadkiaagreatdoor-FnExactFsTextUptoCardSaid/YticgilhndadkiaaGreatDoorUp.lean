/- The paths of a tree: how deep they go, and how many they are. -/
import Derived.Test.YticgilhndadkiaaGreatDoorUo
set_option maxRecDepth 100000
set_option linter.unusedVariables false
set_option linter.unusedSimpArgs false
namespace Go.Proofs.YticgilhndadkiaaGreatDoor.R
open Go

def entsOf (l : List TInode) (k : Int) : List TEnt := match nodeOf l k with
  | some x => x.Ents
  | none => []
/-- What a number's entries lead to. -/
def own (l : List TInode) (k : Int) : List Int := (entsOf l k).map (·.Ino)
/-- What is led to from numbers, k steps on. -/
def lv (l : List TInode) : Nat → List Int → List Int
  | 0, s => s
  | k + 1, s => lv l k (s.flatMap (own l))
theorem lv_succ (l : List TInode) : ∀ (k : Nat) (s : List Int), lv l (k + 1) s = (lv l k s).flatMap (own l)
  | 0, s => rfl
  | k + 1, s => lv_succ l k (s.flatMap (own l))
theorem lv_nil (l : List TInode) : ∀ k, lv l k [] = []
  | 0 => rfl
  | k + 1 => lv_nil l k
theorem lv_append (l : List TInode) : ∀ (k : Nat) (a b : List Int), lv l k (a ++ b) = lv l k a ++ lv l k b
  | 0, a, b => rfl
  | k + 1, a, b => by simp only [lv, List.flatMap_append]; exact lv_append l k _ _
theorem lv_mem {l : List TInode} {k : Nat} {s : List Int} (h : lv l k s = []) {d : Int} (hd : d ∈ s) : lv l k [d] = [] := by
  obtain ⟨a, b, rfl⟩ := List.append_of_mem hd
  rw [show a ++ d :: b = a ++ ([d] ++ b) from rfl, lv_append, lv_append] at h
  simp only [List.append_eq_nil_iff] at h
  exact h.2.1

/-- What a tree has of its numbers. -/
structure Tree (l : List TInode) : Prop where
  one : ∀ d y, own l d ≠ [] → (own l y).count d ≤ 1
  par : ∀ d y z, own l d ≠ [] → d ∈ own l y → d ∈ own l z → y = z
  root : ∀ y, ¬ (1 : Int) ∈ own l y
  few : l.length ≤ 30
  ten : ∀ y, (own l y).length ≤ 10

theorem sum_one {g : Int → Nat} : ∀ {L : List Int}, (∀ y, g y ≤ 1) → (∀ y z, 0 < g y → 0 < g z → y = z) → (∀ y, 0 < g y → L.count y ≤ 1) → (L.map g).sum ≤ 1
  | [], _, _, _ => by simp
  | a :: L, h1, h2, h3 => by
    simp only [List.map_cons, List.sum_cons]
    by_cases ha : g a = 0
    · rw [ha, Nat.zero_add]
      exact sum_one h1 h2 fun y hy => Nat.le_trans (List.count_le_count_cons) (h3 y hy)
    · have hpos : 0 < g a := Nat.pos_of_ne_zero ha
      have hz : (L.map g).sum = 0 := by
        have : ∀ y ∈ L, g y = 0 := fun y hy => by
          refine Classical.byContradiction fun hne => ?_
          have e := h2 a y hpos (Nat.pos_of_ne_zero hne)
          subst e
          have := h3 a hpos
          rw [List.count_cons_self] at this
          have := List.count_pos_iff.2 hy
          omega
        clear h3 h2
        induction L with
        | nil => rfl
        | cons b L ih =>
          simp only [List.map_cons, List.sum_cons]
          rw [this b (by simp), ih fun y hy => this y (by simp [hy])]
      have := h1 a
      omega
theorem count_flat (l : List TInode) (d : Int) : ∀ L : List Int, (L.flatMap (own l)).count d = (L.map fun y => (own l y).count d).sum
  | [] => by simp
  | a :: L => by simp only [List.flatMap_cons, List.count_append, List.map_cons, List.sum_cons, count_flat l d L]
theorem len_flat (l : List TInode) : ∀ L : List Int, (L.flatMap (own l)).length = (L.map fun y => (own l y).length).sum
  | [] => by simp
  | a :: L => by simp only [List.flatMap_cons, List.length_append, List.map_cons, List.sum_cons, len_flat l L]
theorem Tree.lev {l : List TInode} (h : Tree l) (y0 : Int) : ∀ k d, own l d ≠ [] → (lv l k (own l y0)).count d ≤ 1
  | 0, d, hd => h.one d y0 hd
  | k + 1, d, hd => by
    rw [lv_succ, count_flat]
    refine sum_one (fun y => h.one d y hd) (fun y z hy hz => h.par d y z hd (List.count_pos_iff.1 hy) (List.count_pos_iff.1 hz)) fun y hy => ?_
    refine Tree.lev h y0 k y fun e => ?_
    rw [e] at hy
    simp at hy
theorem own_placed {l : List TInode} {d : Int} (h : own l d ≠ []) : d ∈ l.map (·.Ino) := by
  unfold own entsOf at h
  cases hx : nodeOf l d with
  | none => rw [hx] at h; simp at h
  | some x =>
    obtain ⟨h1, h2⟩ := nodeOf_mem hx
    exact List.mem_map.2 ⟨x, h1, h2⟩
theorem nodup_count : ∀ {L : List Int}, (∀ d ∈ L, L.count d ≤ 1) → L.Nodup
  | [], _ => List.nodup_nil
  | a :: L, h => by
    refine List.nodup_cons.2 ⟨fun ha => ?_, nodup_count fun d hd => Nat.le_trans List.count_le_count_cons (h d (by simp [hd]))⟩
    have := h a (by simp)
    rw [List.count_cons_self] at this
    have := List.count_pos_iff.2 ha
    omega
theorem sum_filter {g : Int → Nat} : ∀ L : List Int, (L.map g).sum = ((L.filter fun d => g d != 0).map g).sum
  | [] => rfl
  | a :: L => by
    simp only [List.map_cons, List.sum_cons, List.filter_cons]
    by_cases ha : g a = 0
    · simp [ha, sum_filter L]
    · simp [ha, sum_filter L]
theorem sum_ten {g : Int → Nat} (hg : ∀ d, g d ≤ 10) : ∀ L : List Int, (L.map g).sum ≤ L.length * 10
  | [] => by simp
  | a :: L => by
    have := sum_ten hg L
    have := hg a
    simp only [List.map_cons, List.sum_cons, List.length_cons]
    omega
/-- No level is large. -/
theorem Tree.wide {l : List TInode} (h : Tree l) (y0 : Int) : ∀ k, (lv l k (own l y0)).length ≤ 300
  | 0 => Nat.le_trans (h.ten y0) (by decide)
  | k + 1 => by
    rw [lv_succ, len_flat, sum_filter]
    generalize hL : (lv l k (own l y0)).filter (fun d => (own l d).length != 0) = L
    have hne : ∀ d ∈ L, own l d ≠ [] := fun d hd e => by
      subst hL
      have := (List.mem_filter.1 hd).2
      rw [e] at this
      simp at this
    have hnd : L.Nodup := nodup_count fun d hd => by
      have h1 := h.lev y0 k d (hne d hd)
      subst hL
      exact Nat.le_trans (List.Sublist.count_le d List.filter_sublist) h1
    have h1 := nodup_len hnd fun d hd => own_placed (hne d hd)
    have h2 := sum_ten h.ten L
    have h3 := h.few
    simp only [List.length_map] at h1
    omega

/-- All that is led to from 1 on lies on one level. -/
theorem Tree.apart {l : List TInode} (h : Tree l) : ∀ (i j : Nat) (d : Int), i < j → own l d ≠ [] → d ∈ lv l i (own l 1) → ¬ d ∈ lv l j (own l 1)
  | 0, j + 1, d, _, hd, hi, hj => by
    rw [lv_succ] at hj
    obtain ⟨y, hy, hdy⟩ := List.mem_flatMap.1 hj
    have e := h.par d 1 y hd hi hdy
    subst e
    cases j with
    | zero => exact h.root 1 hy
    | succ j =>
      rw [lv_succ] at hy
      obtain ⟨z, _, hz⟩ := List.mem_flatMap.1 hy
      exact h.root z hz
  | i + 1, j + 1, d, hij, hd, hi, hj => by
    rw [lv_succ] at hi hj
    obtain ⟨y, hy, hdy⟩ := List.mem_flatMap.1 hi
    obtain ⟨z, hz, hdz⟩ := List.mem_flatMap.1 hj
    have e := h.par d y z hd hdy hdz
    subst e
    exact h.apart i j y (by omega) (fun e => by rw [e] at hdy; simp at hdy) hy hz
theorem Tree.noRoot {l : List TInode} (h : Tree l) : ∀ k, ¬ (1 : Int) ∈ lv l k (own l 1)
  | 0, h1 => h.root 1 h1
  | k + 1, h1 => by
    rw [lv_succ] at h1
    obtain ⟨y, _, hy⟩ := List.mem_flatMap.1 h1
    exact h.root y hy
/-- One of each level. -/
theorem Tree.chain {l : List TInode} (h : Tree l) : ∀ k, lv l k (own l 1) ≠ [] → ∃ L : List Int, L.length = k ∧ L.Nodup ∧ ∀ d ∈ L, own l d ≠ [] ∧ ∃ i, i < k ∧ d ∈ lv l i (own l 1)
  | 0, _ => ⟨[], rfl, List.nodup_nil, fun d hd => by simp at hd⟩
  | k + 1, hne => by
    rw [lv_succ] at hne
    have : ∃ d, d ∈ lv l k (own l 1) ∧ own l d ≠ [] := by
      refine Classical.byContradiction fun hno => hne ?_
      rw [List.flatMap_eq_nil_iff]
      intro d hd
      exact Classical.byContradiction fun he => hno ⟨d, hd, he⟩
    obtain ⟨d, hd, hod⟩ := this
    obtain ⟨L, h1, h2, h3⟩ := h.chain k fun e => by rw [e] at hd; simp at hd
    refine ⟨d :: L, by simp [h1], List.nodup_cons.2 ⟨fun hdL => ?_, h2⟩, fun a ha => ?_⟩
    · obtain ⟨_, i, hi, hdi⟩ := h3 d hdL
      exact h.apart i k d hi hod hdi hd
    · rcases List.mem_cons.1 ha with rfl | ha
      · exact ⟨hod, k, Nat.lt_succ_self k, hd⟩
      · obtain ⟨q1, i, hi, q2⟩ := h3 a ha
        exact ⟨q1, i, by omega, q2⟩
theorem Tree.low {l : List TInode} (h : Tree l) : lv l 30 (own l 1) = [] := by
  refine Classical.byContradiction fun hne => ?_
  obtain ⟨L, h1, h2, h3⟩ := h.chain 30 hne
  have h4 := nodup_len (L := L) (M := l.map (·.Ino)) h2 fun d hd => own_placed (h3 d hd).1
  have hroot : own l 1 ≠ [] := fun e => by rw [e, lv_nil] at hne; exact hne rfl
  have h5 := nodup_len (L := 1 :: L) (M := l.map (·.Ino)) (List.nodup_cons.2 ⟨fun h1L => by
    obtain ⟨_, i, _, hi⟩ := h3 1 h1L
    exact h.noRoot i hi, h2⟩) fun d hd => by
      rcases List.mem_cons.1 hd with rfl | hd
      · exact own_placed hroot
      · exact own_placed (h3 d hd).1
  have := h.few
  simp only [List.length_cons, List.length_map] at h5
  omega

end Go.Proofs.YticgilhndadkiaaGreatDoor.R
