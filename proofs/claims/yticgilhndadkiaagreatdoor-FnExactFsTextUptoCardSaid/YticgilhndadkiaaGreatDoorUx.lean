/- What lies at a tree's paths. -/
import Derived.Test.YticgilhndadkiaaGreatDoorUw
set_option maxRecDepth 100000
set_option linter.unusedVariables false
set_option linter.unusedSimpArgs false
namespace Go.Proofs.YticgilhndadkiaaGreatDoor.R
open Go

structure TEntry where
  Path : ByteArray
  Kind : Int
  Data : List UInt8
  Attrs : List TAttr
  First : ByteArray
def TEntry.pv (x : TEntry) : List PV := [.t x.Path, .i .i64 x.Kind, .s 1 (x.Data.map bpv), .s 2 (x.Attrs.map TAttr.pv), .t x.First]
structure TEntry.ok (x : TEntry) : Prop where
  Path : okS x.Path
  Kind : inR x.Kind
  Data : (∀ y ∈ x.Data, okB y) ∧ x.Data.length ≤ Bd
  Attrs : (∀ y ∈ x.Attrs, TAttr.ok y) ∧ x.Attrs.length ≤ Bd
  First : okS x.First
attribute [go_sem] TEntry.pv

/-- The inode at a path; nothing where there is none. -/
def stI (l : List TInode) (p : List UInt8) : TInode := match (walkP l p).2 == 0 with
  | false => zeroI
  | true => match nodeOf l (walkP l p).1 with
    | none => zeroI
    | some x => x
def firstP (l : List TInode) (ps : List (List UInt8)) (k : Int) : List UInt8 := match ps.find? (fun q => (walkP l q).1 == k) with
  | some q => q
  | none => []
def entryP (l : List TInode) (ps : List (List UInt8)) (p : List UInt8) : TEntry := ⟨⟨⟨p⟩⟩, (stI l p).Kind, (stI l p).Data, (stI l p).Attrs, ⟨⟨firstP l ps (stI l p).Ino⟩⟩⟩
noncomputable def dumpL (t : TTab) : List TEntry := (pathsT t).map (entryP t.Inodes (pathsT t))

theorem walkF_code (l : List TInode) : ∀ (ns : List (List UInt8)) (k : Int), (walkF l ns k).2 ≠ 0 → (walkF l ns k).1 = 0
  | [], k, h => absurd rfl h
  | nm :: ns, k, h => by
    simp only [walkF] at h ⊢
    split
    · rfl
    · rename_i x hx
      rw [hx] at h
      simp only at h
      split
      · rfl
      · rename_i hk
        rw [hk] at h
        simp only at h
        split
        · rfl
        · rename_i he
          rw [he] at h
          exact walkF_code l ns _ h
theorem ent_placed {t : TTab} (h : treeB t = true) {x : TInode} (hx : x ∈ t.Inodes) {nm : List UInt8} (he : (entI x.Ents nm == 0) = false) : (nodeOf t.Inodes (entI x.Ents nm)).isSome = true := by
  unfold entI at he ⊢
  cases hf : x.Ents.find? (fun e => e.Name.toList == nm) with
  | none => rw [hf] at he; simp at he
  | some e =>
    have hm := List.mem_of_find?_eq_some hf
    obtain ⟨i, hi⟩ := List.getElem?_of_mem hm
    have := ((tree_parts h).2 x hx).2.2
    unfold entsIn at this
    have := allB_get this (List.getElem?_eq_some_iff.1 hi).1
    rw [hi] at this
    exact this
theorem walkF_placed {t : TTab} (h : treeB t = true) : ∀ (ns : List (List UInt8)) (k : Int), (nodeOf t.Inodes k).isSome = true → (walkF t.Inodes ns k).2 = 0 → (nodeOf t.Inodes (walkF t.Inodes ns k).1).isSome = true
  | [], k, hk, _ => hk
  | nm :: ns, k, hk, hc => by
    obtain ⟨x, hx⟩ := Option.isSome_iff_exists.1 hk
    obtain ⟨hm, _⟩ := nodeOf_mem hx
    simp only [walkF, hx] at hc ⊢
    cases hkd : (x.Kind == 2) with
    | false => rw [hkd] at hc; simp at hc
    | true =>
      rw [hkd] at hc
      simp only at hc ⊢
      cases he : (entI x.Ents nm == 0) with
      | true => rw [he] at hc; simp at hc
      | false =>
        rw [he] at hc
        simp only at hc ⊢
        exact walkF_placed h ns _ (ent_placed h hm he) hc
theorem st_ino {t : TTab} (h : treeB t = true) (p : List UInt8) : (stI t.Inodes p).Ino = (walkP t.Inodes p).1 := by
  unfold stI
  cases hc : ((walkP t.Inodes p).2 == 0) with
  | false =>
    have hne : (walkP t.Inodes p).2 ≠ 0 := by simpa using hc
    show zeroI.Ino = _
    unfold walkP at hne ⊢
    cases hp : pathL p with
    | none => rfl
    | some ns =>
      rw [hp] at hne
      exact (walkF_code _ _ _ hne).symm
  | true =>
    have he : (walkP t.Inodes p).2 = 0 := by simpa using hc
    have hp : (nodeOf t.Inodes (walkP t.Inodes p).1).isSome = true := by
      unfold walkP at he ⊢
      cases hp : pathL p with
      | none => rw [hp] at he; exact absurd he (by simp)
      | some ns =>
        rw [hp] at he
        obtain ⟨r, _, hr⟩ := root_some h
        exact walkF_placed h ns 1 (by rw [hr]; rfl) he
    obtain ⟨x, hx⟩ := Option.isSome_iff_exists.1 hp
    simp only [hx]
    exact (nodeOf_mem hx).2
theorem st_mem {l : List TInode} (p : List UInt8) : stI l p = zeroI ∨ stI l p ∈ l := by
  unfold stI
  split
  · exact .inl rfl
  · split
    · exact .inl rfl
    · rename_i x hx; exact .inr (nodeOf_mem hx).1

theorem name_14 {t : TTab} (h : treeB t = true) {x : TInode} (hx : x ∈ t.Inodes) {e : TEnt} (he : e ∈ x.Ents) : e.Name.toList.length ≤ 14 := by
  have h1 := ((tree_parts h).2 x hx).1
  unfold inodeB at h1
  simp only [Bool.and_eq_true] at h1
  have h2 := h1.1.1.2
  unfold entsB at h2
  simp only [Bool.and_eq_true] at h2
  obtain ⟨i, hi⟩ := List.getElem?_of_mem he
  have h3 := allB_get h2.1 (List.getElem?_eq_some_iff.1 hi).1
  unfold entAt entOne at h3
  rw [hi] at h3
  simp only [Bool.and_eq_true] at h3
  have h4 := h3.1.1
  unfold nameB nameL nameEnd at h4
  simp only [Bool.and_eq_true, decide_eq_true_eq] at h4
  rw [ByteArray.toList_eq]
  exact h4.2.1.1.2
theorem paths_size {t : TTab} (h : treeB t = true) : ∀ (f : Nat) (es : List TEnt) (p q : List UInt8), (∀ e ∈ es, e.Name.toList.length ≤ 14) → q ∈ pathsN t.Inodes f es p → q.length ≤ p.length + f * 15
  | 0, es, p, q, _, hq => by simp [pathsN] at hq
  | f + 1, es, p, q, he, hq => by
    simp only [pathsN] at hq
    obtain ⟨e, hem, hq⟩ := List.mem_flatMap.1 hq
    have h1 := he e hem
    have hl : (p ++ [47] ++ e.Name.toList).length ≤ p.length + 15 := by simp only [List.length_append, List.length_cons, List.length_nil]; omega
    rcases List.mem_cons.1 hq with rfl | hq
    · omega
    · have := paths_size h f (entsOf t.Inodes e.Ino) _ q (fun e' he' => by
        unfold entsOf at he'
        cases hx : nodeOf t.Inodes e.Ino with
        | none => rw [hx] at he'; simp at he'
        | some x => rw [hx] at he'; exact name_14 h (nodeOf_mem hx).1 he') hq
      omega
theorem path_size {t : TTab} {q : List UInt8} (hq : q ∈ pathsT t) : q.length ≤ 450 := by
  unfold pathsT at hq
  cases h : treeB t with
  | false => rw [h] at hq; simp at hq
  | true =>
    rw [h] at hq
    have hq2 := (sortTexts_perm _).mem_iff.1 hq
    obtain ⟨r, hr, hno⟩ := root_some h
    have := paths_size h 30 (entsOf t.Inodes 1) [] q (fun e he => by
      unfold entsOf at he
      rw [hno] at he
      exact name_14 h hr he) hq2
    simpa using this
theorem pathsT_len (t : TTab) : (pathsT t).length ≤ 9000 := by
  unfold pathsT
  cases h : treeB t with
  | false => simp
  | true =>
    simp only [sortTexts_len]
    exact paths_few h
theorem first_mem {l : List TInode} {ps : List (List UInt8)} {k : Int} : firstP l ps k = [] ∨ firstP l ps k ∈ ps := by
  unfold firstP
  split
  · rename_i q hq; exact .inr (List.mem_of_find?_eq_some hq)
  · exact .inl rfl
theorem first_size {t : TTab} {k : Int} : (firstP t.Inodes (pathsT t) k).length ≤ 450 := by
  rcases first_mem (l := t.Inodes) (ps := pathsT t) (k := k) with h | h
  · rw [h]; simp
  · exact path_size h
theorem st_ok {t : TTab} (ht : t.ok) (p : List UInt8) : (stI t.Inodes p).ok := by
  rcases st_mem (l := t.Inodes) p with h | h
  · rw [h]; exact zeroI_ok
  · exact ht.Inodes.1 _ h
theorem entry_ok {t : TTab} (ht : t.ok) {p : List UInt8} (hp : p ∈ pathsT t) : (entryP t.Inodes (pathsT t) p).ok := by
  have h1 := st_ok ht p
  have h2 := path_size hp
  have h3 := first_size (t := t) (k := (stI t.Inodes p).Ino)
  have hb : Bd = 1048576 := rfl
  exact ⟨by unfold okS entryP; simp only [size_lit]; omega, h1.Kind, h1.Data, h1.Attrs, by unfold okS entryP; simp only [size_lit]; omega⟩
/-- The first path of what a path leads to. -/
theorem first_at {t : TTab} (h : treeB t = true) {ps : List (List UInt8)} {i : Nat} {p : List UInt8} (hp : ps[i]? = some p) (hn : ∀ (j : Nat) (q : List UInt8), j < i → ps[j]? = some q → ((walkP t.Inodes q).1 == (stI t.Inodes p).Ino) = false) : firstP t.Inodes ps (stI t.Inodes p).Ino = p := by
  have : ps.find? (fun q => (walkP t.Inodes q).1 == (stI t.Inodes p).Ino) = some p := by
    rw [List.find?_eq_some_iff_getElem]
    obtain ⟨hi, hpi⟩ := List.getElem?_eq_some_iff.1 hp
    refine ⟨by rw [st_ino h]; simp, i, hi, hpi, fun j hj => by simpa using hn j _ hj (List.getElem?_eq_getElem (by omega))⟩
  unfold firstP; rw [this]
theorem first_same {t : TTab} (h : treeB t = true) {ps : List (List UInt8)} {p q : List UInt8} (hq : ((walkP t.Inodes q).1 == (stI t.Inodes p).Ino) = true) : firstP t.Inodes ps (stI t.Inodes q).Ino = firstP t.Inodes ps (stI t.Inodes p).Ino := by
  have : (stI t.Inodes q).Ino = (stI t.Inodes p).Ino := by rw [st_ino h q]; simpa using hq
  rw [this]
theorem tree_ne {t : TTab} {p : List UInt8} (hp : p ∈ pathsT t) : treeB t = true := by
  cases h : treeB t with
  | true => rfl
  | false => unfold pathsT at hp; rw [h] at hp; simp at hp

end Go.Proofs.YticgilhndadkiaaGreatDoor.R
