/- A call: all that the caller has behind it. -/
import Derived.Test.YticgilhndadkiaaGreatDoorM2
import Derived.Deep.AppendSrc
import Derived.Deep.Upon
set_option linter.unusedVariables false
set_option linter.unusedSimpArgs false
namespace Go.Proofs.YticgilhndadkiaaGreatDoor.R
open Go

theorem putBoxes_length : ∀ (gs : List Nat) (ms : List (List CV)) (σ : St), (putBoxes gs ms σ).length = σ.length
  | [], ms, σ => by cases ms <;> rfl
  | s :: l, [], σ => rfl
  | s :: l, b :: m, σ => by simp [putBoxes, putBoxes_length l m]
theorem putBoxes_out : ∀ {gs : List Nat} {ms : List (List CV)} {σ : St} {k : Nat}, gs.contains k = false → (putBoxes gs ms σ)[k]? = σ[k]?
  | [], ms, σ, k, h => by cases ms <;> rfl
  | s :: l, [], σ, k, h => rfl
  | s :: l, b :: m, σ, k, h => by
    simp only [List.contains_cons, Bool.or_eq_false_iff] at h
    simp only [putBoxes]
    rw [putBoxes_out h.2, List.getElem?_set_ne (by intro e; subst e; simp at h)]
theorem putBoxes_in : ∀ {gs : List Nat} {ms : List (List CV)} {σ : St} {g s : Nat} {m : List CV}, nodupB gs = true → gs[g]? = some s → ms[g]? = some m → s < σ.length → (putBoxes gs ms σ)[s]? = some (.c .box m)
  | [], ms, σ, g, s, m, hn, h1, h2, h3 => by simp at h1
  | x :: l, [], σ, g, s, m, hn, h1, h2, h3 => by simp at h2
  | x :: l, b :: ms, σ, g, s, m, hn, h1, h2, h3 => by
    simp only [nodupB, Bool.and_eq_true, Bool.not_eq_true'] at hn
    simp only [putBoxes]
    cases g with
    | zero =>
      simp at h1 h2; subst h1; subst h2
      rw [putBoxes_out hn.1, List.getElem?_set_self h3]
    | succ g => exact putBoxes_in hn.2 (by simpa using h1) (by simpa using h2) (by simpa using h3)

section
variable {X X' : Ctx} {gs : List Nat} {lent : List (Nat × Nat)} {fl any : Bool} {N : Nat} {d : Option Nat}

theorem home_V (G : Goes (X.callee gs lent fl N) X') {f : Bool} (ha : f = true → any = true) {b : Nat} (h : X'.V f b) : (X.back X' gs lent any d).V (f && fl) b := by
  rcases h with h | ⟨e, h⟩
  · exact .inl (.inl h)
  · rw [G.va] at h
    rcases h with h | ⟨e2, h⟩
    · exact .inl (.inr ⟨ha e, h⟩)
    · exact .inr ⟨by simp [e, e2], h⟩

/-- A cell that the called function leaves. -/
theorem home_cell (G : Goes (X.callee gs lent fl N) X') {k s : Nat} (ht : ∀ b p u, X'.own b = some (k, p, u) → (X.back X' gs lent any d).own b = some (s, p, u)) {j : Nat} {v : Value} {c : CV} (hb : noBr c = true) (ha : c.flag = true → any = true)
    (h : CVRel X' k j v c) : CVRel (X.back X' gs lent any d) s j v (c.reflag fl) := by
  cases h with
  | sh f p v h =>
    refine .sh (f && fl) p v ?_
    cases hs : p.scalar with
    | true => exact h.scalar hs
    | false => exact h.mono fun b hb => ⟨home_V G (fun e => ha (by simp [CV.flag, hs, e])) hb, rfl⟩
  | ow0 f es a => exact .ow0 _ es a
  | ow f es rows v blk off cap c elem fr h =>
    exact .ow _ es rows v blk off cap c elem fr ⟨h.val, h.le, ht _ _ _ h.own, h.cells, h.fits, h.loose, h.reads.mono fun b hb => ⟨home_V G (by simpa [CV.flag] using ha) hb, rfl⟩⟩
  | br0 => simp [noBr] at hb
  | br => simp [noBr] at hb
  | brv => simp [noBr] at hb
  | dead v => exact .dead v

theorem home_cells (G : Goes (X.callee gs lent fl N) X') {k s : Nat} (ht : ∀ b p u, X'.own b = some (k, p, u) → (X.back X' gs lent any d).own b = some (s, p, u)) : ∀ {j : Nat} {vs : List Value} {l : List CV}, l.all noBr = true → (l.any CV.flag = true → any = true) →
    CellsRel X' k j vs l → CellsRel (X.back X' gs lent any d) s j vs (l.map (CV.reflag fl))
  | j, [], [], hb, hf, .nil _ => .nil j
  | j, v :: vs, cv :: l, hb, hf, .cons _ _ _ _ _ h t => by
    simp only [List.all_cons, Bool.and_eq_true] at hb
    exact .cons j v _ vs _ (home_cell G ht hb.1 (fun e => hf (by simp [e])) h) (home_cells G ht hb.2 (fun e => hf (by simp only [List.any_cons, e, Bool.or_true])) t)

/-- A cell that the caller kept. -/
theorem kept_cell (hi : Inv X) (hl : lent.all (fun x => !gs.contains x.1) = true) (G : Goes (X.callee gs lent fl N) X') {k j : Nat} (hk : gs.contains k = false) {v : Value} {c : CV} (h : CVRel X k j v c) :
    CVRel (X.back X' gs lent any d) k j v (backC gs lent any k j c) := by
  have hV : ∀ f b, X.V f b → (X.back X' gs lent any d).V f b ∧ (X.back X' gs lent any d).w.heap[b]? = X.w.heap[b]? := fun f b h => back_V hi G f b h
  cases h with
  | sh f p v h => exact .sh f p v (h.mono (hV f))
  | ow0 f es a =>
    simp only [backC]
    split
    · exact .sh f _ _ (.s0 a 0 es)
    · exact .ow0 f es a
  | ow f es rows v blk off cap c elem fr h =>
    simp only [backC]
    split
    · rename_i hc
      simp only [Bool.and_eq_true] at hc
      have h1 := back_lent (d := d) hi hl G hc.1 hc.2 h.own f
      refine .sh f _ v ?_
      rw [h.val]
      exact .s blk off _ cap es c elem fr rows h1.1 (h1.2.trans h.cells) rfl h.le (h.reads.mono (hV f))
    · rename_i hc
      have h1 := back_keep (d := d) (any := any) hi G h.own hk (by rintro ⟨h2, _, h3⟩; exact hc (by simpa [h2] using h3))
      exact .ow f es rows v blk off cap c elem fr ⟨h.val, h.le, h1.1, h1.2.trans h.cells, h.fits, h.loose, h.reads.mono (hV f)⟩
  | br0 a b kd lo f es ad =>
    simp only [backC]
    split
    · exact .dead _
    · split
      · exact .sh f _ _ (.s0 ad 0 es)
      · exact .br0 a b kd lo f es ad
  | br a b kd lo f es rows v blk base tip cap c elem fr h =>
    simp only [backC]
    split
    · exact .dead _
    · rename_i hg
      have hg : gs.contains a = false := by simpa using hg
      split
      · rename_i hc
        simp only [Bool.and_eq_true] at hc
        have h1 := back_lent (d := d) hi hl G hc.1 hc.2 h.own f
        refine .sh f _ v ?_
        rw [h.val]
        exact .s blk _ _ cap es c elem fr rows h1.1 (h1.2.trans h.cells) rfl h.le (h.reads.mono (hV f))
      · rename_i hc
        have h1 := back_keep (d := d) (any := any) hi G h.own hg (by rintro ⟨h2, _, h3⟩; exact hc (by simpa [h2] using h3))
        exact .br a b kd lo f es rows v blk base tip cap c elem fr ⟨h.val, h.le, h1.1, h1.2.trans h.cells, h.fits, h.loose, h.tipLe, h.tip1, h.lo0, h.reads.mono (hV f)⟩
  | brv a b lo f es rows v h =>
    simp only [backC]
    split
    · exact .dead _
    · split
      · exact .sh f _ _ (h.mono (hV f))
      · exact .brv a b lo f es rows v (h.mono (hV f))
  | dead v => exact .dead v

theorem kept_cells (hi : Inv X) (hl : lent.all (fun x => !gs.contains x.1) = true) (G : Goes (X.callee gs lent fl N) X') {k : Nat} (hk : gs.contains k = false) : ∀ {j : Nat} {vs : List Value} {l : List CV}, CellsRel X k j vs l →
    CellsRel (X.back X' gs lent any d) k j vs (mapAll (backC gs lent any k) j l)
  | _, _, _, .nil j => .nil j
  | _, _, _, .cons j v cv vs l h t => .cons j v _ vs _ (kept_cell hi hl G hk h) (kept_cells hi hl G hk t)

/-- A slot that the caller kept. -/
theorem kept_sv (hi : Inv X) (hl : lent.all (fun x => !gs.contains x.1) = true) (G : Goes (X.callee gs lent fl N) X') (hbox : ∀ b base tip s, gs.contains s = true → X.own b = some (s, 0, base, tip) → ∃ base' tip', (X.back X' gs lent any d).own b = some (s, 0, base', tip'))
    {k : Nat} (hk : gs.contains k = false) {v : Value} {sv : SV} (h : SVRel X k v sv) :
    SVRel (X.back X' gs lent any d) k v (sv.mapC (backC gs lent any k) (backEp gs lent any)) := by
  have hV : ∀ f b, X.V f b → (X.back X' gs lent any d).V f b ∧ (X.back X' gs lent any d).w.heap[b]? = X.w.heap[b]? := fun f b h => back_V hi G f b h
  have hbp : ∀ b base tip s, X.own b = some (s, 0, base, tip) → ∃ base' tip', (X.back X' gs lent any d).own b = some (s, 0, base', tip') := fun b base tip s h => by
    cases hs : gs.contains s with
    | true => exact hbox b base tip s hs h
    | false => exact ⟨base, tip, (back_keep hi G h hs (by simp)).1⟩
  cases h with
  | undef v => exact .undef v
  | c sh v vs l hf hc => exact .c sh v vs _ hf (kept_cells hi hl G hk hc)
  | box blk base tip c elem fr l ho hb hfr hc =>
    have h1 := back_keep (d := d) (any := any) (lent := lent) hi G ho hk (by simp)
    exact .box blk base tip c elem fr _ h1.1 (h1.2.trans hb) hfr (kept_cells hi hl G hk hc)
  | bp s o blk base tip ho =>
    obtain ⟨base', tip', h1⟩ := hbp _ _ _ _ ho
    exact .bp s o blk base' tip' h1
  | ep s o kd fl' es i f row blk off base tip c elem fr ho he hlen hb hfr hr =>
    simp only [SV.mapC, backEp]
    by_cases hc : (gs.contains s || (any && lent.contains (s, o))) = true
    · rw [if_pos hc]; exact .undef _
    · rw [if_neg hc]
      simp only [Bool.or_eq_true, not_or] at hc
      have h1 := back_keep (d := d) (any := any) hi G ho (by simpa using hc.1) (by rintro ⟨h2, _, h3⟩; exact hc.2 (by simpa [h2] using h3))
      exact .ep s o kd fl' es i f row blk off base tip c elem fr h1.1 he hlen (h1.2.trans hb) hfr (hr.mono (hV fl'))
  | epv s o fl' es i f row blk off c elem fr hv hb hr =>
    simp only [SV.mapC, backEp]
    by_cases hc : (gs.contains s || (any && lent.contains (s, o))) = true
    · rw [if_pos hc]; exact .undef _
    · rw [if_neg hc]
      exact .epv s o fl' es i f row blk off c elem fr (hV _ _ hv).1 ((hV _ _ hv).2.trans hb) (hr.mono (hV fl'))
  | sp fl' row f blk off c elem fr hv hb hr => exact .sp fl' row f blk off c elem fr (hV _ _ hv).1 ((hV _ _ hv).2.trans hb) (hr.mono (hV fl'))
  | fn g caps cs hs hc =>
    refine .fn g caps cs hs fun i v s h1 h2 => ?_
    obtain ⟨blk, base, tip, e, ho⟩ := hc i v s h1 h2
    obtain ⟨base', tip', h3⟩ := hbp _ _ _ _ ho
    exact ⟨blk, base', tip', e, h3⟩

theorem flat_sh {sh : Shape} {v : Value} {vs : List Value} (h : Flat sh v vs) : sh ≠ .box := by cases h <;> simp

theorem home_sv (G : Goes (X.callee gs lent fl N) X') {v : Value} {sv : SV} (hr : isRes sv = true) (hb : sv.cells.all noBr = true) (ha : sv.cells.any CV.flag = true → any = true) {d' : Nat} (h : SVRel X' 0 v sv) : SVRel (X.back X' gs lent any (some d')) d' v (sv.reflag fl) := by
  cases sv with
  | c sh l =>
    cases h with
    | c _ _ vs _ hf hc => exact .c sh v vs _ hf (home_cells G (fun b p u h => back_res h) hb ha hc)
    | box => simp [isRes] at hr
  | _ => simp [isRes] at hr

theorem reflag_ow {c : CV} (h : c.isOw = true) : (c.reflag fl).isOw = true := by
  cases c <;> first | rfl | simp [CV.isOw] at h
theorem backC_ow {k j : Nat} {c : CV} (h : c.isOw = true) (hn : ¬(any = true ∧ lent.contains (k, j) = true)) : (backC gs lent any k j c).isOw = true := by
  cases c with
  | ow f es rows =>
    simp only [backC]
    rw [if_neg (by simpa using hn)]
    rfl
  | _ => simp [CV.isOw] at h
theorem backC_dead (k j : Nat) : backC gs lent any k j .dead = .dead := rfl

theorem svCell_reflag {sv : SV} {p : Nat} (h : (svCell sv p).isOw = true) : (svCell (sv.reflag fl) p).isOw = true := by
  cases sv with
  | c sh l =>
    simp only [svCell, SV.reflag, List.getD_eq_getElem?_getD, List.getElem?_map] at h ⊢
    cases e : l[p]? with
    | none => simp [e, CV.isOw] at h
    | some c => simp [e] at h ⊢; exact reflag_ow h
  | _ => simp [svCell, CV.isOw] at h

theorem getD_dead {l : List CV} {p : Nat} (h : (l.getD p .dead).isOw = true) : ∃ c, l[p]? = some c ∧ c.isOw = true := by
  rw [List.getD_eq_getElem?_getD] at h
  cases e : l[p]? with
  | none => simp [e, CV.isOw] at h
  | some c => exact ⟨c, rfl, by simpa [e] using h⟩

theorem box_inv {X : Ctx} {k : Nat} {v : Value} {l : List CV} (h : SVRel X k v (.c .box l)) : ∃ (blk base tip : Nat) (c : Array Value) (elem : TypeId) (fr : Nat × Nat), v = .pointer (some ⟨blk, 0, none⟩) ∧ X.own blk = some (k, 0, base, tip) ∧ X.w.heap[blk]? = some (.cells c elem fr) ∧ free fr c.size ∧ CellsRel X k 0 c.toList l := by
  cases h with
  | c _ _ _ _ hf _ => exact absurd rfl (flat_sh hf)
  | box blk base tip c elem fr l ho hb hfr hc => exact ⟨blk, base, tip, c, elem, fr, rfl, ho, hb, hfr, hc⟩

/-- The caller behind the call. -/
theorem back_good {vs : List Value} {σ : St} (hg : Good X vs σ NoE) {bs : List (List CV)} (hn : nodupB gs = true) (hbs : boxesAt σ gs = some bs) (hl : lent.all (fun x => !gs.contains x.1) = true)
    (hd : ∀ d', d = some d' → (∀ b p base tip, X.own b ≠ some (d', p, base, tip))) (hdg : ∀ d', d = some d' → gs.contains d' = false)
    {v : Value} {res : SV} {ms : List (List CV)} (hlen : ms.length = bs.length) (hms : ms.all (·.all noBr) = true) (hr : isRes res = true) (hrb : res.cells.all noBr = true) (ha : (res.cells.any CV.flag || ms.any (·.any CV.flag)) = true → any = true)
    (G : Goes (X.callee gs lent fl N) X') (hg' : Good X' (v :: gvals vs gs) (res :: ms.map (.c .box)) NoE) :
    Good (X.back X' gs lent any d) vs (putBoxes gs (ms.map (·.map (CV.reflag fl))) (back gs lent any σ)) (fun a _ => d = some a) ∧
    (∀ d', d = some d' → SVRel (X.back X' gs lent any d) d' v (res.reflag fl) ∧ (∀ b p base tip, (X.back X' gs lent any d).own b = some (d', p + 1, base, tip) → (svCell (res.reflag fl) p).isOw = true) ∧ (∀ b base tip, (X.back X' gs lent any d).own b ≠ some (d', 0, base, tip))) ∧
    (putBoxes gs (ms.map (·.map (CV.reflag fl))) (back gs lent any σ)).length = σ.length := by
  have hi := hg.inv
  obtain ⟨hbl, hbg⟩ := boxesAt_get hbs
  have hbl' : ∀ (g s : Nat), gs[g]? = some s → ∃ (b m : List CV), bs[g]? = some b ∧ ms[g]? = some m ∧ σ[s]? = some (SV.c .box b) := fun g s h => by
    have hlt : g < gs.length := by rw [List.getElem?_eq_some_iff] at h; exact h.1
    exact ⟨bs[g]'(by omega), ms[g]'(by omega), List.getElem?_eq_getElem _, List.getElem?_eq_getElem _, hbg _ _ _ h (List.getElem?_eq_getElem _)⟩
  -- the values of the variables
  have hval : ∀ (g s : Nat), gs[g]? = some s → ∃ v : Value, vs[s]? = some v ∧ (gvals vs gs)[g]? = some v := fun g s h => by
    obtain ⟨b, m, _, _, h3⟩ := hbl' g s h
    have hlt : s < σ.length := by rw [List.getElem?_eq_some_iff] at h3; exact h3.1
    have hlt' : s < vs.length := by rw [hg.frame.1]; exact hlt
    refine ⟨vs[s], List.getElem?_eq_getElem hlt', ?_⟩
    simp [gvals, h, List.getD_eq_getElem?_getD, List.getElem?_eq_getElem hlt']
  have hslot : ∀ (g s : Nat) (m : List CV) (v : Value), gs[g]? = some s → ms[g]? = some m → (gvals vs gs)[g]? = some v → SVRel X' (g + 1) v (.c .box m) := fun g s m v h1 h2 h3 =>
    hg'.frame.2 (g + 1) v _ (by simpa using h3) (by simp [h2])
  have hbox : ∀ b base tip s, gs.contains s = true → X.own b = some (s, 0, base, tip) → ∃ base' tip', (X.back X' gs lent any d).own b = some (s, 0, base', tip') := fun b base tip s hs ho => by
    obtain ⟨g, hg1⟩ := posOf_some hs
    have hg2 := posOf_get hg1
    obtain ⟨bb, m, h1, h2, h3⟩ := hbl' g s hg2
    obtain ⟨u, h4, h5⟩ := hval g s hg2
    have h6 := hslot g s m u hg2 h2 h5
    have h7 := hg.frame.2 s u _ h4 h3
    obtain ⟨blk, base1, tip1, c, elem, fr, e1, ho1, hb1, hfr1, hc1⟩ := box_inv h7
    obtain ⟨blk2, base2, tip2, c2, elem2, fr2, e2, ho2, hb2, hfr2, hc2⟩ := box_inv h6
    rw [e1] at e2
    injection e2 with e2; injection e2 with e2; injection e2 with e2
    subst e2
    have : b = blk := hi.one _ _ _ _ _ _ _ _ ho ho1
    subst this
    exact ⟨base2, tip2, back_box ho2 hg2⟩
  have hdd : ∀ d', d = some d' → gs.contains d' = false ∧ ∀ b p base tip, X.own b ≠ some (d', p, base, tip) := fun d' h => ⟨hdg d' h, hd d' h⟩
  have hsize : (putBoxes gs (ms.map (·.map (CV.reflag fl))) (back gs lent any σ)).length = σ.length := by rw [putBoxes_length]; exact mapSt_length _ _ _ _
  have hin : ∀ (g s : Nat) (m : List CV), gs[g]? = some s → ms[g]? = some m → (putBoxes gs (ms.map (·.map (CV.reflag fl))) (back gs lent any σ))[s]? = some (.c .box (m.map (CV.reflag fl))) := fun g s m h1 h2 => by
    obtain ⟨bb, m', _, _, h3⟩ := hbl' g s h1
    have hlt : s < σ.length := by rw [List.getElem?_eq_some_iff] at h3; exact h3.1
    exact putBoxes_in hn h1 (by simp [h2]) (by unfold back; rw [mapSt_length]; exact hlt)
  have hout : ∀ k, gs.contains k = false → (putBoxes gs (ms.map (·.map (CV.reflag fl))) (back gs lent any σ))[k]? = (σ[k]?).map fun x => x.mapC (backC gs lent any k) (backEp gs lent any) := fun k h => by
    rw [putBoxes_out h]; unfold back; rw [mapSt_get]; simp
  refine ⟨⟨back_inv hi hg'.inv hn hl G hdd, ⟨by rw [hsize]; exact hg.frame.1, ?_⟩, ?_, ?_⟩, ?_, hsize⟩
  · intro k u sv hu hs
    cases hk : gs.contains k with
    | true =>
      obtain ⟨g, hg1⟩ := posOf_some hk
      have hg2 := posOf_get hg1
      obtain ⟨bb, m, h1, h2, h3⟩ := hbl' g k hg2
      rw [hin g k m hg2 h2] at hs
      injection hs with hs; subst hs
      obtain ⟨u', h4, h5⟩ := hval g k hg2
      rw [h4] at hu; injection hu with hu; subst hu
      have h6 := hslot g k m u' hg2 h2 h5
      cases h6 with
      | c _ _ _ _ hf _ => exact absurd rfl (flat_sh hf)
      | box blk base2 tip2 c2 elem2 fr2 _ ho2 hb2 hfr2 hc2 =>
        refine .box blk base2 tip2 c2 elem2 fr2 _ (back_box ho2 hg2) hb2 hfr2 (home_cells G (fun b p u h => back_box h hg2) ?_ ?_ hc2)
        · exact List.all_eq_true.1 hms m (List.mem_of_getElem? h2)
        · exact fun e => ha (by rw [Bool.or_eq_true]; exact .inr (List.any_eq_true.2 ⟨m, List.mem_of_getElem? h2, e⟩))
    | false =>
      rw [hout k hk] at hs
      obtain ⟨x, h1, h2⟩ := some_map hs
      subst h2
      exact kept_sv hi hl G hbox hk (hg.frame.2 k u x hu h1)
  · intro b s p base tip h
    rcases back_cases h with ⟨p', u, d', h1, h2, h3⟩ | ⟨k, s1, p', u, h1, h2, h3⟩ | ⟨s1, p', u, h0, h1, h2, h3, h4⟩
    · injection h3 with h3 _
      subst h3
      exact .inl h2
    · injection h3 with h3 h4; injection h4 with h4 _
      subst h3; subst h4
      right
      obtain ⟨bb, m, _, h5, h6⟩ := hbl' k s h2
      rw [cellAt_of (hin k s m h2 h5)]
      have h7 := (hg'.tags.cell b (k + 1) p u.1 u.2 h1).resolve_left id
      rw [cellAt_of (sh := .box) (l := m) (by simp [h5])] at h7
      obtain ⟨c, h8, h9⟩ := getD_dead h7
      rw [List.getD_eq_getElem?_getD, List.getElem?_map, h8]
      exact reflag_ow h9
    · injection h4 with h4 h5; injection h5 with h5 _
      subst h4; subst h5
      right
      have h6 := (hg.tags.cell b s p u.1 u.2 h1).resolve_left id
      have h7 : cellAt (putBoxes gs (ms.map (·.map (CV.reflag fl))) (back gs lent any σ)) s p = cellAt (back gs lent any σ) s p := by
        unfold cellAt
        rw [List.getD_eq_getElem?_getD, List.getD_eq_getElem?_getD, putBoxes_out h2]
      rw [h7]
      unfold back
      rw [cellAt_map_ow _ _ σ s p (backC_dead s p) h6]
      exact backC_ow h6 (fun ⟨e1, e2⟩ => h3 ⟨e1, by simp, by simpa using e2⟩)
  · intro b s base tip h
    rcases back_cases h with ⟨p', u, d', h1, h2, h3⟩ | ⟨k, s1, p', u, h1, h2, h3⟩ | ⟨s1, p', u, h0, h1, h2, h3, h4⟩
    · injection h3 with h3 h4; injection h4 with h4 _
      subst h3; subst h4
      obtain ⟨l, h5⟩ := hg'.tags.box b 0 u.1 u.2 h1
      simp at h5
      subst h5
      simp [isRes] at hr
    · injection h3 with h3 h4
      subst h3
      obtain ⟨bb, m, _, h5, h6⟩ := hbl' k s h2
      exact ⟨_, hin k s m h2 h5⟩
    · injection h4 with h4 h5; injection h5 with h5 _
      subst h4; subst h5
      obtain ⟨l, h6⟩ := hg.tags.box b s u.1 u.2 h1
      exact ⟨_, by rw [hout s h2, h6]; rfl⟩
  · intro d' hd'
    subst hd'
    have hres := hg'.frame.2 0 v res rfl rfl
    refine ⟨home_sv G hr hrb (fun e => ha (by simp [e])) hres, ?_, ?_⟩
    · intro b p base tip h
      rcases back_cases h with ⟨p', u, d'', h1, h2, h3⟩ | ⟨k, s1, p', u, h1, h2, h3⟩ | ⟨s1, p', u, h0, h1, h2, h3, h4⟩
      · injection h3 with h3 h4; injection h4 with h4 _
        subst h4
        have h5 := (hg'.tags.cell b 0 p u.1 u.2 h1).resolve_left id
        refine svCell_reflag ?_
        cases res with
        | c sh l => exact h5
        | _ => simp [isRes] at hr
      · injection h3 with h3 _
        subst h3
        have := (hdd _ rfl).1
        rw [get_contains h2] at this; simp at this
      · injection h4 with h4 h5
        subst h4
        exact absurd h1 ((hdd _ rfl).2 _ _ _ _)
    · intro b base tip h
      rcases back_cases h with ⟨p', u, d'', h1, h2, h3⟩ | ⟨k, s1, p', u, h1, h2, h3⟩ | ⟨s1, p', u, h0, h1, h2, h3, h4⟩
      · injection h3 with h3 h4; injection h4 with h4 _
        subst h4
        obtain ⟨l, h5⟩ := hg'.tags.box b 0 u.1 u.2 h1
        simp at h5
        subst h5
        simp [isRes] at hr
      · injection h3 with h3 _
        subst h3
        have := (hdd _ rfl).1
        rw [get_contains h2] at this; simp at this
      · injection h4 with h4 h5
        subst h4
        exact absurd h1 ((hdd _ rfl).2 _ _ _ _)

end
end Go.Proofs.YticgilhndadkiaaGreatDoor.R

/- A call of a Go function, as an operation. -/
set_option linter.unusedVariables false
set_option linter.unusedSimpArgs false
namespace Go.Proofs.YticgilhndadkiaaGreatDoor.R
open Go

theorem settle_good (vs : List Value) : ∀ {l : List CV} {X : Ctx} {σ σ' : St} {E : Nat → Nat → Prop}, Good X vs σ E → settle l σ = some σ' → ∃ X', Kept X X' vs σ σ' E
  | [], X, σ, σ', E, h, e => by simp only [settle] at e; injection e with e; subst e; exact ⟨X, .refl h⟩
  | c :: l, X, σ, σ', E, h, e => by
    cases c with
    | br s o kd lo f es rows =>
      simp only [settle] at e
      split at e
      · rename_i hc
        have k0 := kept_demote h hc
        obtain ⟨X1, k1⟩ := settle_good vs k0.good e
        exact ⟨X1, k0.trans k1⟩
      · exact settle_good vs h e
    | _ => simp only [settle] at e; exact settle_good vs h e

theorem settles_good (vs : List Value) : ∀ {gs : List Nat} {X : Ctx} {σ σ' : St} {E : Nat → Nat → Prop}, Good X vs σ E → settles gs σ = some σ' → ∃ X', Kept X X' vs σ σ' E
  | [], X, σ, σ', E, h, e => by simp only [settles] at e; injection e with e; subst e; exact ⟨X, .refl h⟩
  | s :: l, X, σ, σ', E, h, e => by
    simp only [settles] at e
    obtain ⟨σ1, h1, e⟩ := some_bind e
    unfold settleBox at h1
    obtain ⟨b, h2, h1⟩ := some_bind h1
    obtain ⟨X1, k1⟩ := settle_good vs h h1
    obtain ⟨X2, k2⟩ := settles_good vs k1.good e
    exact ⟨X2, k1.trans k2⟩

theorem demote_bp {s o : Nat} {σ : St} {k a b : Nat} (h : (demote s o σ)[k]? = some (.bp a b)) : σ[k]? = some (.bp a b) := by
  unfold demote at h
  rw [mapSt_get] at h
  obtain ⟨x, h1, h2⟩ := some_map h
  rw [h1]
  cases x <;> simp [SV.mapC] at h2 <;> first | (simp [h2]) | skip
  split at h2 <;> simp at h2

theorem OSVs.append {X : Ctx} : ∀ {vs vs' : List Value} {xs xs' : List SV}, OSVs X vs xs → OSVs X vs' xs' → OSVs X (vs ++ vs') (xs ++ xs')
  | _, _, _, _, .nil, h => h
  | _, _, _, _, .cons v x vs xs h t, h' => .cons v x _ _ h (OSVs.append t h')

theorem lendArgs_pos {X : Ctx} : ∀ {xs xs' : List SV} {k : Nat} {l : List (Nat × Nat)} {f : Bool}, lendArgs k xs = some (xs', l, f) → xs'.length = xs.length
  | [], xs', k, l, f, e => by simp only [lendArgs] at e; injection e with e; injection e with e1 e; subst e1; rfl
  | x :: xs, xs', k, l, f, e => by
    unfold lendArgs at e
    split at e
    · rename_i e0; cases e0
    · rename_i k0 cs l0 e0; injection e0 with e0 e0'; subst e0; subst e0'
      obtain ⟨⟨c1, l1, f1⟩, e1, e⟩ := some_bind e
      obtain ⟨⟨c2, l2, f2⟩, e2, e⟩ := some_map e
      injection e with e3 e; subst e3
      simp [lendArgs_pos (X := X) e2]
    · rename_i k0 cs l0 e0; injection e0 with e0 e0'; subst e0; subst e0'
      obtain ⟨⟨c1, l1, f1⟩, e1, e⟩ := some_bind e
      obtain ⟨⟨c2, l2, f2⟩, e2, e⟩ := some_map e
      injection e with e3 e; subst e3
      simp [lendArgs_pos (X := X) e2]
    · rename_i k0 s l0 e0; injection e0 with e0 e0'; subst e0; subst e0'
      obtain ⟨⟨c2, l2, f2⟩, e2, e⟩ := some_map e
      injection e with e3 e; subst e3
      simp [lendArgs_pos (X := X) e2]
    · rename_i k0 g caps l0 e0; injection e0 with e0 e0'; subst e0; subst e0'
      obtain ⟨⟨c2, l2, f2⟩, e2, e⟩ := some_map e
      injection e with e3 e; subst e3
      simp [lendArgs_pos (X := X) e2]
    · simp at e

/-- The captured variables, as the called function has them. -/
theorem caps_rel {X : Ctx} {gs : List Nat} {lent : List (Nat × Nat)} {fl : Bool} {N : Nat} (hn : nodupB gs = true) {g : FuncId} {caps : List Nat} {v : Value} (h : OSV X v (.fn g caps)) {k : Nat} (hk : ∀ i s, caps[i]? = some s → gs[k + i]? = some s) :
    ∃ cs : Array Value, v = .func (.func g) #[] cs ∧ OSVs (X.callee gs lent fl N) cs.toList (((List.range' k caps.length).map fun j => SV.bp j 0).map (shiftSV N)) := by
  have h0 := h 0
  cases h0 with
  | fn _ _ cs hs hc =>
    refine ⟨cs, rfl, ?_⟩
    rw [List.map_map]
    have hl : cs.toList.length = caps.length := by simpa using hs
    have hc' : ∀ (i : Nat) (v : Value) (s : Nat), cs.toList[i]? = some v → caps[i]? = some s → ∃ (blk base tip : Nat), v = Value.pointer (some ⟨blk, 0, none⟩) ∧ X.own blk = some (s, 0, base, tip) := fun i v s h1 h2 => hc i v s (by simpa using h1) h2
    clear hs hc h
    generalize cs.toList = l at hl hc'
    clear cs
    induction l generalizing caps k with
    | nil =>
      have : caps = [] := List.length_eq_zero_iff.1 (by simpa using hl.symm)
      subst this
      exact .nil
    | cons v l ih =>
      cases caps with
      | nil => simp at hl
      | cons s caps =>
        simp only [List.length_cons, List.range'_succ, List.map_cons]
        refine .cons v _ l _ (fun j => ?_) (ih (k := k + 1) (fun i s h => ?_) (by simpa using hl) (fun i v s h1 h2 => hc' (i + 1) v s (by simpa using h1) (by simpa using h2)))
        · obtain ⟨blk, base, tip, e, ho⟩ := hc' 0 v s rfl rfl
          subst e
          exact .bp (N + k) 0 blk base tip (callee_own_some ho (posOf_at hn (hk 0 s rfl)))
        · have := hk (i + 1) s (by simpa using h)
          rw [← this]; congr 1; omega

/-- A call comes back. -/
theorem callIn_ok {P : Program} {call : CallF} (hcall : CallOk P call) {X : Ctx} {vs : List Value} {σ σ' : St} (hg : Good X vs σ NoE) {gs caps : List Nat} (hn : nodupB gs = true) {g : FuncId} {sv : SV}
    {argv : List Value} {xs : List SV} {q : List SV × List (Nat × Nat) × Bool} (hx : OSVs X argv xs) (hq : lendArgs 0 xs = some q) (hgs : xs.flatMap ghostsOf ++ caps = gs) {fv : Value} (hf : OSV X fv (.fn g caps))
    {d : Option Nat} (hd : ∀ d', d = some d' → (∀ b p base tip, X.own b ≠ some (d', p, base, tip))) (hdg : ∀ d', d = some d' → gs.contains d' = false) (h : callIn call σ g gs caps q = some (σ', sv)) :
    ∃ cs : Array Value, fv = .func (.func g) #[] cs ∧ Lands P g (argv.toArray ++ cs) X.w fun v w' => ∃ X', X'.w = w' ∧ Goes X X' ∧ Good X' vs σ' (fun a _ => d = some a) ∧ σ'.length = σ.length ∧
      (gs = [] → (∀ r, call g q.1 [] = some r → (r.res.cells.any CV.flag && !q.2.1.isEmpty) = false) → Mono X X' ∧ ∀ b t, X'.own b = some t → X.own b = some t ∨ d = some t.1) ∧
      ∀ d', d = some d' → SVRel X' d' v sv ∧ (∀ b p base tip, X'.own b = some (d', p + 1, base, tip) → (svCell sv p).isOw = true) ∧ (∀ b base tip, X'.own b ≠ some (d', 0, base, tip)) := by
  unfold callIn at h
  obtain ⟨bs, hbs, h⟩ := some_bind h
  split at h
  case isFalse => simp at h
  rename_i hc1
  obtain ⟨r, hr, h⟩ := some_bind h
  split at h
  case isFalse => simp at h
  rename_i hc2
  obtain ⟨xs', lent, f⟩ := q
  simp only at hr h hc1
  injection h with h; injection h with h1 h2
  obtain ⟨N, hN, H⟩ := hcall _ _ _ _ hr
  have hlen := lendArgs_pos (X := X) hq
  have hgl : gs.length = (xs.flatMap ghostsOf).length + caps.length := by rw [← hgs]; simp
  -- the flags
  let fl : Bool := f || bs.any (·.any CV.flag)
  let any : Bool := r.res.cells.any CV.flag || r.boxes.any (·.any CV.flag)
  have ha : OSVs (X.callee gs lent fl N) argv (xs'.map (shiftSV N)) := lendArgs_rel hn hx hq (fun i s hi => by
    rw [← hgs, Nat.zero_add, List.getElem?_append_left (by rw [List.getElem?_eq_some_iff] at hi; exact hi.1)]
    exact hi) (fun x hx => hx) (fun e => by simp [fl, e])
  obtain ⟨cs, e1, hcs⟩ := caps_rel (lent := lent) (fl := fl) (N := N) hn hf (k := gs.length - caps.length) (fun i s hi => by
    have h0 := hgl
    rw [← hgs] at h0 ⊢
    rw [List.getElem?_append_right (by omega)]
    rw [← hi]; congr 1; omega)
  refine ⟨cs, e1, ?_⟩
  have hall := ha.append hcs
  rw [← List.map_append] at hall
  have hgood := callee_good (fl := fl) (N := N) hg hn hbs hc1.1 hc1.2 (by intro e; simp only [fl, e, Bool.or_true]) hall (by rw [List.length_map]; exact hN)
  rw [List.length_map] at hgood
  have hL := H (X.callee gs lent fl N) (argv ++ cs.toList) (gvals vs gs) (by rw [hall.length, List.length_map]) hgood
  have harr : (argv ++ cs.toList).toArray = argv.toArray ++ cs := by simp
  rw [harr] at hL
  have hw : (X.callee gs lent fl N).w = X.w := rfl
  rw [hw] at hL
  have hfin : ∀ v w', (∃ X', X'.w = w' ∧ Goes (X.callee gs lent fl N) X' ∧ Good X' (v :: gvals vs gs) (r.res :: r.boxes.map (.c .box)) NoE) → ∃ X', X'.w = w' ∧ Goes X X' ∧ Good X' vs σ' (fun a _ => d = some a) ∧ σ'.length = σ.length ∧
      (gs = [] → (∀ r, call g xs' [] = some r → (r.res.cells.any CV.flag && !lent.isEmpty) = false) → Mono X X' ∧ ∀ b t, X'.own b = some t → X.own b = some t ∨ d = some t.1) ∧
      ∀ d', d = some d' → SVRel X' d' v sv ∧ (∀ b p base tip, X'.own b = some (d', p + 1, base, tip) → (svCell sv p).isOw = true) ∧ (∀ b base tip, X'.own b ≠ some (d', 0, base, tip)) := by
    rintro v w' ⟨X', e2, G, hg'⟩
    have hb := back_good (fl := fl) (any := any) (d := d) hg hn hbs hc1.2 hd hdg hc2.1 hc2.2.2.2 hc2.2.1 hc2.2.2.1 (fun e => e) G hg'
    subst h1; subst h2
    refine ⟨X.back X' gs lent any d, e2, back_goes hg.inv G, hb.1, hb.2.2, ?_, hb.2.1⟩
    intro hgs0 hfl
    have hbs0 : bs = [] := List.length_eq_zero_iff.1 (by rw [(boxesAt_get hbs).1, hgs0]; rfl)
    have hcp0 : caps = [] := by
      have : caps.length = 0 := by
        have h0 := hgl
        rw [hgs0, List.length_nil] at h0
        omega
      exact List.length_eq_zero_iff.1 this
    have hbx0 : r.boxes = [] := List.length_eq_zero_iff.1 (by rw [hc2.1, hbs0]; rfl)
    have hany : any = true → lent = [] := fun ha => by
      have h1 : (r.res.cells.any CV.flag && !lent.isEmpty) = false := hfl r (by rw [hbs0, hcp0] at hr; simpa using hr)
      have h2 : r.res.cells.any CV.flag = true := by simpa only [any, hbx0, List.any_nil, Bool.or_false] using ha
      rw [h2] at h1
      simpa using h1
    refine ⟨⟨fun f b hV => back_V hg.inv G f b hV, fun b t ho => ?_⟩, fun b t ho => ?_⟩
    · obtain ⟨s, p, u⟩ := t
      exact back_keep hg.inv G ho (by rw [hgs0]; rfl) (fun ⟨h1, _, h2⟩ => by rw [hany h1] at h2; simp at h2)
    · rcases back_cases ho with ⟨p', u, d', h1, h2, h3⟩ | ⟨k, s1, p', u, h1, h2, h3⟩ | ⟨s1, p', u, h0, h1, h2, h3, h4⟩
      · exact .inr (by rw [h2, h3])
      · rw [hgs0] at h2; simp at h2
      · exact .inl (by rw [h4]; exact h1)
  unfold Lands at hL ⊢
  generalize (callFunc g (argv.toArray ++ cs)).run P X.w = R at hL ⊢
  cases R with
  | ok n w' =>
    cases n with
    | value v => exact hfin v w' hL
    | enter f as =>
      refine Calls.mono hL ?_
      intro e w'' he
      cases e with
      | returned v => exact hfin v w'' he
      | _ => exact he
    | row row as => exact Rows.mono hL fun v w'' he => hfin v w'' he
    | _ => exact hL
  | _ => exact hL

end Go.Proofs.YticgilhndadkiaaGreatDoor.R

/- Operations with an effect: a variable's new value; a new variable; a store. -/
set_option linter.unusedVariables false
set_option linter.unusedSimpArgs false
namespace Go.Proofs.YticgilhndadkiaaGreatDoor.R
open Go

theorem all_put {a : Act} {gv : List Value} {d : Nat} {v : Value} (h : d < a.tmps.size) : All (a.put (some d) v) gv = (All a gv).set d v := by
  unfold All Act.put
  simp only [Array.toList_setIfInBounds]
  rw [List.set_append_left _ _ (by simpa using h)]
theorem put_size (a : Act) (d : Option Tmp) (v : Value) : (a.put d v).tmps.size = a.tmps.size := by
  cases d <;> simp [Act.put]
theorem put_defers (a : Act) (d : Option Tmp) (v : Value) : (a.put d v).defers = a.defers := by
  cases d <;> rfl

theorem mapSt_shape (g : Nat → Nat → CV → CV) (e : EpMap) (σ : St) (d : Nat) (sh : Shape) : (∃ l, (mapSt g e 0 σ)[d]? = some (.c sh l)) ↔ ∃ l, σ[d]? = some (.c sh l) := by
  rw [mapSt_get]
  cases σ[d]? with
  | none => simp
  | some x =>
    cases x with
    | c sh' l => simp [SV.mapC]
    | ep a b _ _ _ _ _ _ => simp only [Option.map_some, SV.mapC]; cases e a b <;> simp
    | _ => simp [SV.mapC]

theorem persist_shape {s' o' : Nat} {c c' : CV} {σ σ' : St} (h : persist s' o' c σ = some (σ', c')) (d : Nat) (sh : Shape) : (∃ l, σ'[d]? = some (.c sh l)) ↔ ∃ l, σ[d]? = some (.c sh l) := by
  unfold persist at h
  split at h
  · injection h with h; injection h with h; subst h; exact Iff.rfl
  · injection h with h; injection h with h; subst h; exact Iff.rfl
  · split at h
    · split at h
      · injection h with h; injection h with h; subst h; exact mapSt_shape _ _ _ _ _
      · split at h
        · injection h with h; injection h with h; subst h; exact mapSt_shape _ _ _ _ _
        · injection h with h; injection h with h; subst h; exact mapSt_shape _ _ _ _ _
    · simp at h
  · simp at h

theorem persistAll_shape : ∀ {l : List CV} {s' j : Nat} {σ σ' : St} {l' : List CV}, persistAll s' j l σ = some (σ', l') → ∀ (d : Nat) (sh : Shape), (∃ m, σ'[d]? = some (.c sh m)) ↔ ∃ m, σ[d]? = some (.c sh m)
  | [], s', j, σ, σ', l', h, d, sh => by simp only [persistAll] at h; injection h with h; injection h with h; subst h; exact Iff.rfl
  | c :: l, s', j, σ, σ', l', h, d, sh => by
    simp only [persistAll] at h
    obtain ⟨r, h1, h⟩ := some_bind h
    obtain ⟨q, h2, h⟩ := some_map h
    injection h with h h3; subst h
    exact (persistAll_shape h2 d sh).trans (persist_shape h1 d sh)

/-- What an operation comes to: its value is laid into slot d. -/
structure Eff (X X' : Ctx) (vs : List Value) (σ' : St) (d : Nat) (v : Value) (sv : SV) : Prop where
  goes : Goes X X'
  good : Good X' (vs.set d v) (σ'.set d sv) NoE

/-- A slot that nothing is known of. -/
def Bare (X : Ctx) (σ : St) (d : Nat) : Prop := (∀ p, Free X d p) ∧ (∀ b base tip, X.own b ≠ some (d, 0, base, tip)) ∧ (∀ p, (cellAt σ d p).isOw = false) ∧ (∀ l, σ[d]? ≠ some (.c .box l))

theorem Bare.no {X : Ctx} {σ : St} {d : Nat} (h : Bare X σ d) : ∀ b p base tip, X.own b ≠ some (d, p, base, tip) := fun b p base tip => by
  cases p with
  | zero => exact h.2.1 b base tip
  | succ p => exact h.1 p b base tip

/-- An answer is laid into the slot. -/
theorem eff_pure {X X' : Ctx} {vs : List Value} {σ : St} {d : Nat} {v : Value} {sv : SV} (hg : Good X vs σ NoE) (hb : Bare X σ d) (hd : d < σ.length) (h : PureRes X X' d v sv) : Eff X X' vs σ d v sv := by
  refine ⟨h.goes, good_set hg (fun _ _ e => e.elim) h.mono h.inv hd ?_ hb.2.1 h.rel ?_ ?_⟩
  · intro b t hbt
    exact h.new b t hbt
  · intro b p base tip hbt
    exact (h.tag b p base tip hbt).resolve_left (hb.1 p b base tip)
  · intro b base tip hbt
    exact (h.tagb b base tip hbt).resolve_left (hb.2.1 b base tip)

theorem persist_eff {X : Ctx} {vs : List Value} {σ σ' : St} {d : Nat} {vals : List Value} {cs l' : List CV} (hg : Good X vs σ NoE) (hb : Bare X σ d) (hc : VCells X vals cs) (h : persistAll d 0 cs σ = some (σ', l')) :
    ∃ X', Goes X X' ∧ X'.w = X.w ∧ Good X' vs σ' (fun a _ => a = d) ∧ CellsRel X' d 0 vals l' ∧ (∀ p, (l'.getD p .dead).isOw = false → Free X' d p) ∧ (∀ b base tip, X'.own b ≠ some (d, 0, base, tip)) ∧ (∀ l, σ'[d]? ≠ some (.c .box l)) ∧ σ'.length = σ.length := by
  obtain ⟨X', p⟩ := persistAll_good vs d hg hc.ocells (fun p _ _ => ⟨hb.1 p, hb.2.2.1 p⟩) h
  have hbx : ∀ l, σ'[d]? ≠ some (.c .box l) := fun l e => by
    obtain ⟨m, hm⟩ := (persistAll_shape h d .box).1 ⟨l, e⟩
    exact hb.2.2.2 m hm
  refine ⟨X', p.goes, p.w, p.good.weak ?_, p.cells, ?_, ?_, hbx, p.size⟩
  · rintro a b (h1 | ⟨h1, _⟩)
    · exact h1.elim
    · exact h1
  · intro q hq
    by_cases hlt : q < l'.length
    · have e1 : l'[q]? = some (l'[q]) := List.getElem?_eq_getElem hlt
      have := p.tag q _ e1 (by simpa [List.getD_eq_getElem?_getD, e1] using hq)
      simpa using this
    · exact p.free d q (by have := p.len; omega) (hb.1 q)
  · intro b base tip e
    obtain ⟨l, hl⟩ := p.good.tags.box _ _ _ _ e
    exact hbx l hl

theorem eff_assign {X : Ctx} {vs : List Value} {σ σ' : St} {d : Nat} {v : Value} {sh : Shape} {cs l' : List CV} (hg : Good X vs σ NoE) (hb : Bare X σ d) (hd : d < σ.length) (hx : OSV X v (.c sh cs)) (hsh : sh ≠ .box) (h : persistAll d 0 cs σ = some (σ', l')) :
    ∃ X', X'.w = X.w ∧ Eff X X' vs σ' d v (.c sh l') := by
  obtain ⟨vals, hf, hc⟩ := osv_cells hx hsh
  obtain ⟨X', G, hw, g, hcr, ht, hnb, hbx, hs⟩ := persist_eff hg hb hc h
  refine ⟨X', hw, G, good_set g (fun _ _ e => e) (.refl X') g.inv (by omega) (fun b t h => .inl h) hnb (.c sh v vals l' hf hcr) ?_ ?_⟩
  · intro b p base tip e
    cases hh : (svCell (.c sh l') p).isOw with
    | true => rfl
    | false => exact absurd e (ht p hh b base tip)
  · intro b base tip e
    exact absurd e (hnb b base tip)

/-- A new variable. -/
theorem eff_box {X0 X : Ctx} {w' : World} {vs : List Value} {σ : St} {d : Nat} {vals : List Value} {l : List CV} {elem : TypeId} (hg : Good X vs σ (fun a _ => a = d)) (hG : Goes X0 X) (hd : d < σ.length) (hcr : CellsRel X d 0 vals l)
    (ht : ∀ p, (l.getD p .dead).isOw = false → Free X d p) (hnb : ∀ b base tip, X.own b ≠ some (d, 0, base, tip)) (hp : Pushes X.w w' (.cells vals.toArray elem (0, 0))) :
    Eff X0 (X.made w' (d, 0, 0, 0)) vs σ d (.pointer (some ⟨X.w.heap.size, 0, none⟩)) (.c .box l) := by
  have hm := made_mono (t := (d, 0, 0, 0)) hg.inv hp
  refine ⟨hG.trans (made_goes hp), good_set hg (fun _ _ e => e) hm (made_inv hg.inv hp hnb) hd ?_ hnb ?_ ?_ ?_⟩
  · intro b t h
    exact (made_new h).imp id fun e => by rw [e]
  · exact .box X.w.heap.size 0 0 vals.toArray elem (0, 0) l (by simp [Ctx.made]) hp.new (free0 _) (by simpa using hcr.mono hm)
  · intro b p base tip e
    rcases made_new e with e | e
    · cases hh : (svCell (.c .box l) p).isOw with
      | true => rfl
      | false => exact absurd e (ht p hh b base tip)
    · injection e with _ e; injection e with e _; omega
  · intro b base tip e
    exact ⟨l, rfl⟩

theorem eff_alloc {P : Program} {T : Tys} (hT : TOk P T) {X : Ctx} {vs : List Value} {σ : St} {d : Nat} (hg : Good X vs σ NoE) (hb : Bare X σ d) (hd : d < σ.length) {t : TypeId} {z : List PV} (h : T.zr t = some z) :
    ∃ v X', (Instr.alloc t true (.tuple #[])).run P X.w = .ok v X'.w ∧ Eff X X' vs σ d v (.c .box (z.map (PV.cv false))) := by
  obtain ⟨v, h1, h2, h3⟩ := run_zero (P := P) hT (w := X.w) h
  have hz := zero_cells (X := X) (f := false) h3
  let w' : World := { X.w with heap := X.w.heap.push (.cells v.cells t (0, 0)) }
  have hp : Pushes X.w w' (.cells (z.map PV.val).toArray t (0, 0)) := ⟨by rw [← h2], rfl, rfl, rfl⟩
  have he := eff_box (vals := z.map PV.val) (l := z.map (PV.cv false)) (hg.weak (E' := fun a _ => a = d) fun _ _ e => e.elim) (.refl X) hd hz.cells (fun p _ => hb.1 p) hb.2.1 hp
  refine ⟨_, _, ?_, he⟩
  simp only [Instr.alloc, Sem.run_bind, h1, Result.andThen_ok, newVar, newRow]
  rfl

theorem eff_newbox {P : Program} {X : Ctx} {vs : List Value} {σ σ' : St} {d : Nat} (hg : Good X vs σ NoE) (hb : Bare X σ d) (hd : d < σ.length) {t : TypeId} {v : Value} {x : SV} {cs l' : List CV} (hx : OSV X v x) (hc : cells? x = some cs) (h : persistAll d 0 cs σ = some (σ', l')) :
    ∃ u X', (Instr.box t v).run P X.w = .ok u X'.w ∧ Eff X X' vs σ' d u (.c .box l') := by
  obtain ⟨hv, _⟩ := cells_flat hx hc
  obtain ⟨X1, G, hw, g, hcr, ht, hnb, hbx, hs⟩ := persist_eff hg hb hv h
  let w' : World := { X.w with heap := X.w.heap.push (.cells v.cells t (0, 0)) }
  have hp : Pushes X1.w w' (.cells v.cells.toList.toArray t (0, 0)) := ⟨by rw [hw], by rw [hw], by rw [hw], by rw [hw]⟩
  have he := eff_box g G (by omega) hcr ht hnb hp
  refine ⟨_, _, ?_, he⟩
  simp only [Instr.box, Sem.run_bind, newVar, newRow]
  rw [hw]
  rfl

end Go.Proofs.YticgilhndadkiaaGreatDoor.R

/- Stores: what the machine writes; into a variable. -/
set_option linter.unusedVariables false
set_option linter.unusedSimpArgs false
namespace Go.Proofs.YticgilhndadkiaaGreatDoor.R
open Go

/-- w' is w but for block b, which has c' now. -/
structure Wrote (w w' : World) (b : Nat) (c' : Array Value) (elem : TypeId) (fr : Nat × Nat) : Prop where
  at_ : w'.heap[b]? = some (.cells c' elem fr)
  else_ : ∀ k, k ≠ b → w'.heap[k]? = w.heap[k]?
  size : w'.heap.size = w.heap.size
  os : w'.os = w.os
  tape : w'.tape = w.tape
  output : w'.output = w.output

theorem wrote_cell {w : World} {b o : Nat} {c : Array Value} {elem : TypeId} {fr : Nat × Nat} (h : w.heap[b]? = some (.cells c elem fr)) (v : Value) : Wrote w (w.setCell ⟨b, o, none⟩ v) b (c.setIfInBounds o v) elem fr where
  at_ := by
    have hlt : b < w.heap.size := (Array.getElem?_eq_some_iff.1 h).1
    have hv : w.heap[b] = .cells c elem fr := (Array.getElem?_eq_some_iff.1 h).2
    unfold World.setCell
    rw [Array.getElem?_eq_getElem (by simpa using hlt), Array.getElem_modify]
    simp [hv]
  else_ := fun k hk => by
    unfold World.setCell
    simp only [Array.getElem?_modify]
    rw [if_neg (Ne.symm hk)]
  size := by simp [World.setCell]
  os := rfl
  tape := rfl
  output := rfl

theorem Wrote.trans {w w' w'' : World} {b : Nat} {c c' : Array Value} {elem elem' : TypeId} {fr fr' : Nat × Nat} (h : Wrote w w' b c elem fr) (h' : Wrote w' w'' b c' elem' fr') : Wrote w w'' b c' elem' fr' :=
  ⟨h'.at_, fun k hk => (h'.else_ k hk).trans (h.else_ k hk), h'.size.trans h.size, h'.os.trans h.os, h'.tape.trans h.tape, h'.output.trans h.output⟩

theorem wrote_cells (b : Nat) {elem : TypeId} {fr : Nat × Nat} : ∀ (vs : List Value) (o : Nat) {w : World} {c : Array Value}, w.heap[b]? = some (.cells c elem fr) → o + vs.length ≤ c.size →
    ∃ c', Wrote w (w.setCells b o vs) b c' elem fr ∧ c'.toList = c.toList.take o ++ vs ++ c.toList.drop (o + vs.length)
  | [], o, w, c, h, hl => ⟨c, ⟨h, fun _ _ => rfl, rfl, rfl, rfl, rfl⟩, by simp⟩
  | v :: vs, o, w, c, h, hl => by
    have h1 := wrote_cell (o := o) h v
    simp at hl
    obtain ⟨c', h2, h3⟩ := wrote_cells b vs (o + 1) h1.at_ (by simp; omega)
    refine ⟨c', h1.trans h2, ?_⟩
    rw [h3]
    simp only [Array.toList_setIfInBounds, List.length_cons]
    rw [take_set1 v c.toList o (by simp; omega), drop_set1 v c.toList o _ (by omega)]
    simp
    congr 1; omega

theorem run_write {P : Program} {w : World} {b o : Nat} {c : Array Value} {elem : TypeId} {fr : Nat × Nat} (h : w.heap[b]? = some (.cells c elem fr)) (hfr : free fr c.size) {vs : List Value} (hl : o + vs.length ≤ c.size) (h1 : ∀ v ∈ vs, v.oneCell' = true) :
    ∃ w' c', (storeCells ⟨b, o, none⟩ vs).run P w = .ok () w' ∧ Wrote w w' b c' elem fr ∧ c'.toList = c.toList.take o ++ vs ++ c.toList.drop (o + vs.length) := by
  obtain ⟨c', h2, h3⟩ := wrote_cells b vs o h hl
  refine ⟨_, c', run_storeCells_cells b o vs 0 w ?_ ?_ h1, h2, h3⟩
  · intro j hj
    rw [cell_none h]
    rw [Array.getElem?_eq_getElem (by omega)]
    rfl
  · intro j hj
    have := hfr (o + 0 + j) (by omega)
    simp only [World.frozen?, h]
    simpa using this

/-- One block of the owned ones has turned. -/
def Ctx.turned (X : Ctx) (w' : World) : Ctx := { X with w := w' }

theorem turned_goes {X : Ctx} {w' : World} {b : Nat} {c : Array Value} {elem : TypeId} {fr : Nat × Nat} (h : Wrote X.w w' b c elem fr) {t : Own} (ho : X.own b = some t) : Goes X (X.turned w') where
  os := h.os
  tape := h.tape
  output := h.output
  size := by show X.w.heap.size ≤ w'.heap.size; rw [h.size]; exact Nat.le_refl _
  keep := fun k hk hn => h.else_ k (fun e => by subst e; rw [ho] at hn; simp at hn)
  va := rfl
  vs := fun _ h => h
  vs' := fun _ h => .inl h
  own' := fun _ h => .inl h

theorem turned_inv {X : Ctx} (hi : Inv X) {w' : World} (hs : w'.heap.size = X.w.heap.size) : Inv (X.turned w') where
  own := fun b t h => ⟨by show b < w'.heap.size; rw [hs]; exact (hi.own b t h).1, (hi.own b t h).2⟩
  one := hi.one
  vs := fun b h => by show b < w'.heap.size; rw [hs]; exact hi.vs b h
  va := fun b h => by show b < w'.heap.size; rw [hs]; exact hi.va b h

theorem turned_V {X : Ctx} (hi : Inv X) {w' : World} {b : Nat} {c : Array Value} {elem : TypeId} {fr : Nat × Nat} (h : Wrote X.w w' b c elem fr) {t : Own} (ho : X.own b = some t) (f : Bool) (k : Nat) (hk : X.V f k) : (X.turned w').V f k ∧ (X.turned w').w.heap[k]? = X.w.heap[k]? :=
  ⟨hk, h.else_ k (fun e => by subst e; rw [(V_own_none hi hk).1] at ho; simp at ho)⟩

/-- Behind a store into a variable all cells read as before, but for its own. -/
theorem turned_cell {X : Ctx} (hi : Inv X) {w' : World} {b s base0 tip0 : Nat} {c : Array Value} {elem : TypeId} {fr : Nat × Nat} (h : Wrote X.w w' b c elem fr) (ho : X.own b = some (s, 0, base0, tip0)) {k j : Nat} {v : Value} {cv : CV} (hc : CVRel X k j v cv) : CVRel (X.turned w') k j v cv := by
  have hV := fun f k => turned_V hi h ho f k
  have hb : ∀ blk s' p base tip, X.own blk = some (s', p + 1, base, tip) → w'.heap[blk]? = X.w.heap[blk]? := fun blk s' p base tip e => h.else_ blk (fun e1 => by subst e1; rw [ho] at e; injection e with e; injection e with _ e; injection e with e _; omega)
  cases hc with
  | sh f p v h => exact .sh f p v (h.mono (hV f))
  | ow0 f es a => exact .ow0 f es a
  | ow f es rows v blk off cap c elem fr h => exact .ow f es rows v blk off cap c elem fr ⟨h.val, h.le, h.own, (hb _ _ _ _ _ h.own).trans h.cells, h.fits, h.loose, h.reads.mono (hV f)⟩
  | br0 s o kd lo f es a => exact .br0 s o kd lo f es a
  | br s o kd lo f es rows v blk base tip cap c elem fr h => exact .br s o kd lo f es rows v blk base tip cap c elem fr ⟨h.val, h.le, h.own, (hb _ _ _ _ _ h.own).trans h.cells, h.fits, h.loose, h.tipLe, h.tip1, h.lo0, h.reads.mono (hV f)⟩
  | brv s o lo f es rows v h => exact .brv s o lo f es rows v (h.mono (hV f))
  | dead v => exact .dead v
theorem turned_cells {X : Ctx} (hi : Inv X) {w' : World} {b s base0 tip0 : Nat} {c : Array Value} {elem : TypeId} {fr : Nat × Nat} (h : Wrote X.w w' b c elem fr) (ho : X.own b = some (s, 0, base0, tip0)) {k : Nat} : ∀ {j : Nat} {vs : List Value} {l : List CV}, CellsRel X k j vs l → CellsRel (X.turned w') k j vs l
  | _, _, _, .nil j => .nil j
  | _, _, _, .cons j v cv vs l hc t => .cons j v cv vs l (turned_cell hi h ho hc) (turned_cells hi h ho t)

theorem turned_sv {X : Ctx} (hi : Inv X) {w' : World} {b s base0 tip0 : Nat} {c : Array Value} {elem : TypeId} {fr : Nat × Nat} (h : Wrote X.w w' b c elem fr) (ho : X.own b = some (s, 0, base0, tip0)) {k : Nat} (hk : k ≠ s) {v : Value} {sv : SV} (hs : SVRel X k v sv) : SVRel (X.turned w') k v sv := by
  have hV := fun f k => turned_V hi h ho f k
  have hb : ∀ blk s' p base tip, X.own blk = some (s', p + 1, base, tip) → w'.heap[blk]? = X.w.heap[blk]? := fun blk s' p base tip e => h.else_ blk (fun e1 => by subst e1; rw [ho] at e; injection e with e; injection e with _ e; injection e with e _; omega)
  cases hs with
  | undef v => exact .undef v
  | c sh v vs l hf hc => exact .c sh v vs l hf (turned_cells hi h ho hc)
  | box blk base tip c elem fr l ho' hbk hfr hc =>
    refine .box blk base tip c elem fr l ho' ((h.else_ blk fun e => ?_).trans hbk) hfr (turned_cells hi h ho hc)
    subst e
    rw [ho] at ho'; injection ho' with e; injection e with e _
    exact hk e.symm
  | bp s o blk base tip ho' => exact .bp s o blk base tip ho'
  | ep s o kd fl es i f row blk off base tip c elem fr ho' he hl hbk hfr hr => exact .ep s o kd fl es i f row blk off base tip c elem fr ho' he hl ((hb _ _ _ _ _ ho').trans hbk) hfr (hr.mono (hV fl))
  | epv s o fl es i f row blk off c elem fr hv hbk hr => exact .epv s o fl es i f row blk off c elem fr (hV _ _ hv).1 ((hV _ _ hv).2.trans hbk) (hr.mono (hV fl))
  | sp fl row f blk off c elem fr hv hbk hr => exact .sp fl row f blk off c elem fr (hV _ _ hv).1 ((hV _ _ hv).2.trans hbk) (hr.mono (hV fl))
  | fn g caps cs hs hc => exact .fn g caps cs hs hc

theorem CellsRel.length {X : Ctx} {k : Nat} : ∀ {j : Nat} {vs : List Value} {l : List CV}, CellsRel X k j vs l → vs.length = l.length
  | _, _, _, .nil j => rfl
  | _, _, _, .cons j v cv vs l h t => by simp [CellsRel.length t]
theorem CellsRel.take {X : Ctx} {k : Nat} : ∀ {j : Nat} {vs : List Value} {l : List CV} (n : Nat), CellsRel X k j vs l → CellsRel X k j (vs.take n) (l.take n)
  | j, _, _, 0, h => by simpa using CellsRel.nil j
  | _, _, _, n + 1, .nil j => by simpa using CellsRel.nil j
  | _, _, _, n + 1, .cons j v cv vs l h t => by simpa using CellsRel.cons j v cv _ _ h (CellsRel.take n t)
theorem CellsRel.drop {X : Ctx} {k : Nat} : ∀ {j : Nat} {vs : List Value} {l : List CV} (n : Nat), CellsRel X k j vs l → CellsRel X k (j + n) (vs.drop n) (l.drop n)
  | j, _, _, 0, h => by simpa using h
  | _, _, _, n + 1, .nil j => by simpa using CellsRel.nil (j + (n + 1))
  | _, _, _, n + 1, .cons j v cv vs l h t => by
    have := CellsRel.drop n t
    rw [show j + 1 + n = j + (n + 1) from by omega] at this
    simpa using this
theorem CellsRel.append {X : Ctx} {k : Nat} : ∀ {j : Nat} {vs vs' : List Value} {l l' : List CV}, CellsRel X k j vs l → CellsRel X k (j + l.length) vs' l' → CellsRel X k j (vs ++ vs') (l ++ l')
  | _, _, _, _, _, .nil j, h => by simpa using h
  | _, _, _, _, _, .cons j v cv vs l h t, h' => .cons j v cv _ _ h (CellsRel.append t (by simpa [Nat.add_assoc, Nat.add_comm 1] using h'))

theorem cells_one {σ : St} {s' j : Nat} {l l' : List CV} {σ' : St} (h : persistAll s' j l σ = some (σ', l')) : ∀ c ∈ l', c ≠ .dead ∧ noBr c = true := by
  induction l generalizing σ σ' j l' with
  | nil => simp only [persistAll] at h; injection h with h; injection h with _ h; subst h; intro c hc; simp at hc
  | cons c l ih =>
    simp only [persistAll] at h
    obtain ⟨r, h1, h⟩ := some_bind h
    obtain ⟨q, h2, h⟩ := some_map h
    injection h with _ h; subst h
    intro c' hc'
    rcases List.mem_cons.1 hc' with e | e
    · subst e
      unfold persist at h1
      split at h1
      · injection h1 with h1; subst h1; exact ⟨by simp, rfl⟩
      · injection h1 with h1; subst h1; exact ⟨by simp, rfl⟩
      · split at h1
        · split at h1
          · injection h1 with h1; subst h1; exact ⟨by simp, rfl⟩
          · split at h1
            · injection h1 with h1; subst h1; exact ⟨by simp, rfl⟩
            · injection h1 with h1; subst h1; exact ⟨by simp, rfl⟩
        · simp at h1
      · simp at h1
    · exact ih h2 c' e

theorem cv_oneCell {X : Ctx} {k j : Nat} {v : Value} {c : CV} (h : CVRel X k j v c) (hd : c ≠ .dead) : v.oneCell' = true := by
  cases h with
  | sh f p v h => exact rd_one h
  | ow0 f es a => rfl
  | ow f es rows v blk off cap c elem fr h => rw [h.val]; rfl
  | br0 s o kd lo f es a => rfl
  | br s o kd lo f es rows v blk base tip cap c elem fr h => rw [h.val]; rfl
  | brv s o lo f es rows v h => exact rd_one h
  | dead v => exact absurd rfl hd
theorem cells_oneCell {X : Ctx} {k : Nat} : ∀ {j : Nat} {vs : List Value} {l : List CV}, CellsRel X k j vs l → (∀ c ∈ l, c ≠ .dead) → ∀ v ∈ vs, v.oneCell' = true
  | _, _, _, .nil j, hd => fun v hv => by simp at hv
  | _, _, _, .cons j v cv vs l h t, hd => fun u hu => by
    rcases List.mem_cons.1 hu with e | e
    · subst e; exact cv_oneCell h (hd cv (by simp))
    · exact cells_oneCell t (fun c hc => hd c (by simp [hc])) u e

end Go.Proofs.YticgilhndadkiaaGreatDoor.R

/- Stores, as operations. -/
set_option linter.unusedVariables false
set_option linter.unusedSimpArgs false
namespace Go.Proofs.YticgilhndadkiaaGreatDoor.R
open Go

theorem run_storeAt {P : Program} {T : Tys} (hT : TOk P T) {w : World} {t : TypeId} {n : Nat} (hs : T.sz t = some n) {b o : Nat} {v : Value} (hl : v.cells.toList.length = n) {w' : World} (h : (storeCells ⟨b, o, none⟩ v.cells.toList).run P w = .ok () w') :
    (Instr.storeAt t (.pointer (some ⟨b, o, none⟩)) v).run P w = .ok () w' := by
  obtain ⟨i, h1, h2⟩ := hT.sz t n hs
  have h3 : v.cells.size = i.size := by rw [h2, ← hl]; simp
  simp only [Instr.storeAt, Sem.run_bind, sure_ok, Result.andThen_ok, storeVar, run_siz h1]
  rw [if_neg (by simp [h3])]
  exact h

/-- A store into a variable. -/
theorem store_bp {P : Program} {T : Tys} (hT : TOk P T) {X : Ctx} {a : Act} {gv : List Value} {σ : St} (hg : Good X (All a gv) σ NoE) {N : Nat} (hN : N = a.tmps.size) {oty t : TypeId} {n s o : Nat} (hn : T.sz t = some n) {p x : Operand} {cs : List CV}
    (hp : opd T N oty (demoteAll s o n σ) p = .bp s o) (hx : cells? (opd T N oty (demoteAll s o n σ) x) = some cs) (hlen : cs.length = n) {σ2 : St} {l' l : List CV} (h : persistAll s o cs (demoteAll s o n σ) = some (σ2, l'))
    (hl : σ2.getD s .undef = .c .box l) (hfit : o + n ≤ l.length) :
    ∃ X', (Instr.storeAt t (a.eval p) (a.eval x)).run P X.w = .ok () X'.w ∧ Goes X X' ∧ Good X' (All a gv) (σ2.set s (.c .box (lay l' o l))) NoE := by
  obtain ⟨X1, k1, hno⟩ := demoteAll_good (All a gv) s n o hg
  have hp1 := opd_sv (T := T) (ty := oty) k1.good hN p
  have hx1 := opd_sv (T := T) (ty := oty) k1.good hN x
  rw [hp] at hp1
  obtain ⟨hc, _⟩ := cells_flat hx1 hx
  obtain ⟨X2, q⟩ := persistAll_good (All a gv) s k1.good hc.ocells (fun p h1 h2 => ⟨free_of k1.good (hno p h1 (by omega)), hno p h1 (by omega)⟩) h
  have hq1 := cells_one h
  have hp0 := hp1 0
  generalize hpv : a.eval p = pv at hp0
  cases hp0 with
  | bp _ _ blk base tip ho =>
    -- the variable's block, as it is now
    have hσ2 : σ2[s]? = some (.c .box l) := by
      rw [List.getD_eq_getElem?_getD] at hl
      cases e : σ2[s]? with
      | none => rw [e] at hl; simp at hl
      | some y => rw [e] at hl; simpa using hl
    have hlt : s < σ2.length := (List.getElem?_eq_some_iff.1 hσ2).1
    have hlv : s < (All a gv).length := by rw [q.good.frame.1]; exact hlt
    have hfr := q.good.frame.2 s _ _ (List.getElem?_eq_getElem hlv) hσ2
    obtain ⟨blk2, base2, tip2, c, elem, fr, hv2, ho2, hb2, hfr2, hcr2⟩ := box_inv hfr
    -- it is the block that the address names
    have hσ1 : ∃ l1, (demoteAll s o n σ)[s]? = some (.c .box l1) := k1.good.tags.box _ _ _ _ ho
    obtain ⟨l1, hl1⟩ := hσ1
    have hfr1 := k1.good.frame.2 s _ _ (List.getElem?_eq_getElem hlv) hl1
    obtain ⟨blk1, base1, tip1, c1, elem1, fr1, hv1, ho1, _, _, _⟩ := box_inv hfr1
    have e1 : blk = blk1 := k1.good.inv.one _ _ _ _ _ _ _ _ ho ho1
    rw [hv1] at hv2
    injection hv2 with hv2; injection hv2 with hv2; injection hv2 with hv2
    subst e1; subst hv2
    have hcl := CellsRel.length hcr2
    have hql := CellsRel.length q.cells
    have hw2 : X2.w = X.w := q.w.trans k1.w
    have hvl : (a.eval x).cells.toList.length = n := by rw [hql, q.len, hlen]
    obtain ⟨w', c', hrun, hwr, hcc⟩ := run_write (P := P) (w := X2.w) (b := blk) (o := o) hb2 hfr2 (vs := (a.eval x).cells.toList) (by
      have : c.size = l.length := by simpa using hcl
      rw [hvl]; omega) (cells_oneCell q.cells fun c hc => (hq1 c hc).1)
    rw [hw2] at hrun
    refine ⟨X2.turned w', run_storeAt hT hn hvl hrun, (k1.goes.trans q.goes).trans (turned_goes hwr ho2), ?_, ⟨?_, ?_⟩, ?_, ?_⟩
    · exact turned_inv q.good.inv hwr.size
    · simpa using q.good.frame.1
    · intro k v sv hv hs
      by_cases hk : k = s
      · subst hk
        rw [List.getElem?_set_self hlt] at hs
        injection hs with hs; subst hs
        have : v = .pointer (some ⟨blk, 0, none⟩) := by
          rw [List.getElem?_eq_getElem hlv] at hv
          injection hv with hv
          rw [← hv, hv1]
        subst this
        refine .box blk base2 tip2 c' elem fr _ ho2 hwr.at_ ?_ ?_
        · have : c'.size = c.size := by
            have e3 := congrArg List.length hcc
            have e4 : c.size = l.length := by simpa using hcl
            simp only [List.length_append, List.length_take, List.length_drop, Array.length_toList] at e3
            simp only [Array.length_toList] at hvl
            omega
          rw [this]; exact hfr2
        · refine turned_cells q.good.inv hwr ho2 ?_
          rw [hcc]
          have e4 : c.size = l.length := by simpa using hcl
          have hn' : l'.length = n := by rw [q.len, hlen]
          unfold lay
          refine CellsRel.append (CellsRel.append (hcr2.take o) ?_) ?_
          · rw [List.length_take, Nat.zero_add, Nat.min_eq_left (by omega)]
            exact q.cells
          · rw [hvl, hn']
            have := hcr2.drop (o + n)
            rw [List.length_append, List.length_take, hn', Nat.min_eq_left (by omega)]
            exact this
      · rw [List.getElem?_set_ne (Ne.symm hk)] at hs
        exact turned_sv q.good.inv hwr ho2 hk (q.good.frame.2 k v sv hv hs)
    · intro b s' p' base tip hb
      right
      have hcell : ∀ p', (cellAt (σ2.set s (.c .box (lay l' o l))) s p') = (lay l' o l).getD p' .dead := fun p' => cellAt_of (List.getElem?_set_self hlt)
      have hn' : l'.length = n := by rw [q.len, hlen]
      have hlay : ∀ p', (lay l' o l).getD p' .dead = if p' < o then l.getD p' .dead else if p' < o + n then l'.getD (p' - o) .dead else l.getD p' .dead := fun p' => by
        unfold lay
        rw [List.getD_eq_getElem?_getD]
        split
        · rename_i h1
          rw [List.append_assoc, List.getElem?_append_left (by rw [List.length_take]; omega), List.getElem?_take, if_pos h1, ← List.getD_eq_getElem?_getD]
        · rename_i h1
          split
          · rename_i h2
            rw [List.append_assoc, List.getElem?_append_right (by rw [List.length_take]; omega), List.length_take, Nat.min_eq_left (by omega), List.getElem?_append_left (by omega), ← List.getD_eq_getElem?_getD]
          · rename_i h2
            rw [List.getElem?_append_right (by rw [List.length_append, List.length_take]; omega), List.length_append, List.length_take, Nat.min_eq_left (by omega), List.getElem?_drop, ← List.getD_eq_getElem?_getD]
            congr 1; omega
      by_cases hs : s' = s
      · subst hs
        rw [hcell, hlay]
        have hold := q.good.tags.cell b s' p' base tip hb
        rw [cellAt_of hσ2] at hold
        split
        · rename_i h1
          exact hold.resolve_left (by rintro (e | ⟨_, e, _⟩); exact e.elim; omega)
        · rename_i h1
          split
          · rename_i h2
            cases hh : (l'.getD (p' - o) .dead).isOw with
            | true => rfl
            | false =>
              have e1 : l'[p' - o]? = some (l'[p' - o]'(by omega)) := List.getElem?_eq_getElem (by omega)
              have := q.tag (p' - o) _ e1 (by simpa [List.getD_eq_getElem?_getD, e1] using hh)
              rw [show o + (p' - o) = p' from by omega] at this
              exact absurd hb (this b base tip)
          · rename_i h2
            exact hold.resolve_left (by rintro (e | ⟨_, e, e'⟩); exact e.elim; omega)
      · have hold := (q.good.tags.cell b s' p' base tip hb).resolve_left (by rintro (e | ⟨e, _⟩); exact e.elim; exact hs e)
        unfold cellAt at hold ⊢
        rw [List.getD_eq_getElem?_getD] at hold ⊢
        rw [List.getElem?_set_ne (Ne.symm hs)]
        exact hold
    · intro b s' base tip hb
      by_cases hs : s' = s
      · subst hs; exact ⟨_, List.getElem?_set_self hlt⟩
      · obtain ⟨l3, h3⟩ := q.good.tags.box b s' base tip hb
        exact ⟨l3, by rw [List.getElem?_set_ne (Ne.symm hs)]; exact h3⟩

end Go.Proofs.YticgilhndadkiaaGreatDoor.R

/- A store into a slice that its cell owns. -/
set_option linter.unusedVariables false
set_option linter.unusedSimpArgs false
namespace Go.Proofs.YticgilhndadkiaaGreatDoor.R
open Go

theorem turned_near {X : Ctx} (hi : Inv X) {w' : World} {b s o base0 tip0 : Nat} {c : Array Value} {elem : TypeId} {fr : Nat × Nat} (h : Wrote X.w w' b c elem fr) (ho : X.own b = some (s, o + 1, base0, tip0)) : Near s o X (X.turned w') where
  V := fun f k hk => turned_V hi h ho f k hk
  own := fun k s' p base tip hk hne => ⟨hk, h.else_ k fun e => by
    subst e
    rw [ho] at hk
    injection hk with hk; injection hk with h1 hk; injection hk with h2 _
    exact hne ⟨h1.symm, h2.symm⟩⟩

/-- The slice that a cell owns has new rows, as many as before. -/
theorem turn_good {X : Ctx} {vs : List Value} {σ : St} {E : Nat → Nat → Prop} (hg : Good X vs σ E) {w' : World} {b s o base tip : Nat} {c' : Array Value} {elem : TypeId} {fr : Nat × Nat} (h : Wrote X.w w' b c' elem fr) (ho : X.own b = some (s, o + 1, base, tip))
    {c : Array Value} (hc : X.w.heap[b]? = some (.cells c elem fr)) (hsz : c'.size = c.size) {f0 f' : Bool} {es : Nat} {rows rows' : List (List PV)} (hcell : cellAt σ s o = .ow f0 es rows) (hlen : rows.length = rows'.length)
    (hr : RdRows w'.heap ((X.turned w').V (f0 || f')) c' base es rows') : Goes X (X.turned w') ∧ Good (X.turned w') vs (turn s o f0 es f' rows' σ) E := by
  have hi := hg.inv
  have hN := turned_near hi h ho
  have hm : Maps X (X.turned w') (turnC s o f0 es f' rows') (epOff s o) := by
    refine hN.maps (fun k j c h1 h2 => turnC_else h1 h2) (fun a b => epOff_else) ?_ ?_ ?_
    · intro v f es1 rows1 hv
      simp only [turnC, and_self, if_true]
      split
      · rename_i hcond
        obtain ⟨rfl, rfl, h2⟩ := hcond
        cases hv with
        | ow0 _ _ a =>
          have : rows' = [] := List.length_eq_zero_iff.1 (by rw [← h2]; rfl)
          subst this
          exact .ow0 _ _ a
        | ow _ _ _ _ blk off cap c2 elem2 fr2 hw =>
          have e1 : blk = b := hi.one _ _ _ _ _ _ _ _ hw.own ho
          subst e1
          have e2 := hw.own.symm.trans ho
          injection e2 with e2; injection e2 with _ e2; injection e2 with _ e2; injection e2 with e2 e3
          subst e2
          have e4 := hw.cells.symm.trans hc
          injection e4 with e4; injection e4 with e4 e5 e6
          subst e4; subst e5; subst e6
          refine .ow _ _ rows' _ blk off cap c' elem2 fr2 ⟨by rw [hw.val, h2], by rw [← h2]; exact hw.le, by rw [← h2]; exact hw.own, h.at_, by rw [hsz]; exact hw.fits, by rw [hsz]; exact hw.loose, hr⟩
      · exact .dead v
    · intro k j v kd lo f es1 rows1 hv
      simp only [turnC, and_self, if_true]
      exact .dead v
    · intro k v kd fl es1 i f row hv s' o' e
      rw [epOff_self] at e; simp at e
  refine ⟨turned_goes h ho, turned_inv hi h.size, hg.frame.map hm, ?_, ?_⟩
  · intro b' s' p base' tip' hb
    refine (hg.tags.cell b' s' p base' tip' hb).imp id fun h1 => ?_
    unfold turn
    rw [cellAt_map_ow _ _ σ s' p (turnC_dead ..) h1]
    by_cases hk : s' = s ∧ p = o
    · obtain ⟨rfl, rfl⟩ := hk
      rw [hcell]
      simp only [turnC, and_self, if_true]
      rw [if_pos ⟨trivial, trivial, hlen⟩]
      rfl
    · rw [turnC_else (fun f es1 rows1 e => hk) (fun a b kd lo f es1 rows1 e => by rw [e] at h1; simp [CV.isOw] at h1)]
      exact h1
  · intro b' s' base' tip' hb
    exact mapSt_box (hg.tags.box b' s' base' tip' hb)

theorem rows_set' {h : Array Obj} {V : Nat → Prop} {c c' : Array Value} {es base : Nat} {rows : List (List PV)} {i : Nat} {ps : List PV} (hr : RdRows h V c base es rows) (hi : i < rows.length) (hl : ps.length = es)
    (h1 : ∀ (j : Nat) (p : PV), ps[j]? = some p → ∃ x, c'[base + i * es + j]? = some x ∧ Rd h V x p) (h2 : ∀ k, (k < base + i * es ∨ base + i * es + es ≤ k) → c'[k]? = c[k]?) : RdRows h V c' base es (rows.set i ps) := by
  refine RdRows.mk fun k row hk => ?_
  by_cases hki : k = i
  · subst hki
    rw [List.getElem?_set_self hi] at hk
    injection hk with hk; subst hk
    exact ⟨hl, RdRow.mk fun j p hj => h1 j p hj⟩
  · rw [List.getElem?_set_ne (Ne.symm hki)] at hk
    obtain ⟨g1, g2⟩ := hr.get k row hk
    refine ⟨g1, RdRow.mk fun j p hj => ?_⟩
    obtain ⟨x, hx, hrd⟩ := g2.get j p hj
    refine ⟨x, ?_, hrd⟩
    rw [← hx]
    have hjl := (List.getElem?_eq_some_iff.1 hj).1
    rw [g1] at hjl
    refine h2 _ ?_
    rcases Nat.lt_or_gt_of_ne hki with h | h
    · left
      have : (k + 1) * es ≤ i * es := Nat.mul_le_mul_right _ h
      rw [Nat.add_mul] at this; omega
    · right
      have : (i + 1) * es ≤ k * es := Nat.mul_le_mul_right _ h
      rw [Nat.add_mul] at this; omega

theorem layP_get {l r : List PV} {j k : Nat} (h : j + l.length ≤ r.length) : (layP l j r)[k]? = if k < j then r[k]? else if k < j + l.length then l[k - j]? else r[k]? := by
  unfold layP
  split
  · rename_i h1
    rw [List.append_assoc, List.getElem?_append_left (by rw [List.length_take]; omega), List.getElem?_take, if_pos h1]
  · split
    · rw [List.append_assoc, List.getElem?_append_right (by rw [List.length_take]; omega), List.length_take, Nat.min_eq_left (by omega), List.getElem?_append_left (by omega)]
    · rw [List.getElem?_append_right (by rw [List.length_append, List.length_take]; omega), List.length_append, List.length_take, Nat.min_eq_left (by omega), List.getElem?_drop]
      congr 1; omega
theorem layP_length {l r : List PV} {j : Nat} (h : j + l.length ≤ r.length) : (layP l j r).length = r.length := by
  unfold layP; simp; omega

theorem wrote_get {c c' : Array Value} {o : Nat} {vs : List Value} (h : c'.toList = c.toList.take o ++ vs ++ c.toList.drop (o + vs.length)) (hl : o + vs.length ≤ c.size) (k : Nat) : c'[k]? = if k < o then c[k]? else if k < o + vs.length then vs[k - o]? else c[k]? := by
  rw [← Array.getElem?_toList, h]
  split
  · rename_i h1
    rw [List.append_assoc, List.getElem?_append_left (by rw [List.length_take]; simp; omega), List.getElem?_take, if_pos h1]
    simp
  · split
    · rw [List.append_assoc, List.getElem?_append_right (by rw [List.length_take]; simp; omega), List.length_take, Nat.min_eq_left (by simp; omega), List.getElem?_append_left (by omega)]
    · rw [List.getElem?_append_right (by rw [List.length_append, List.length_take]; simp; omega), List.length_append, List.length_take, Nat.min_eq_left (by simp; omega), List.getElem?_drop]
      rw [← Array.getElem?_toList]
      congr 1; omega

theorem wrote_size {c c' : Array Value} {o : Nat} {vs : List Value} (h : c'.toList = c.toList.take o ++ vs ++ c.toList.drop (o + vs.length)) (hl : o + vs.length ≤ c.size) : c'.size = c.size := by
  have e := congrArg List.length h
  simp at e
  omega

/-- A store into an element of a slice. -/
theorem store_ep {P : Program} {T : Tys} (hT : TOk P T) {X : Ctx} {a : Act} {gv : List Value} {σ : St} (hg : Good X (All a gv) σ NoE) {N : Nat} (hN : N = a.tmps.size) {oty t : TypeId} {n s o kd i f : Nat} {fl : Bool} {es : Nat} {row0 row : List PV} (hn : T.sz t = some n) {p x : Operand} {cs : List CV}
    (hx : cells? (opd T N oty σ x) = some cs) (hlen : cs.length = n) {σ1 : St} {f' : Bool} {ps : List PV} (h : nestAll cs σ = some (σ1, f', ps))
    (hp : opd T N oty σ1 p = .ep s o kd fl es i f row0) (hkd : kd ≤ 1) {f0 : Bool} {rows : List (List PV)} (hcell : cellAt σ1 s o = .ow f0 es rows) (hrow : rows[i]? = some row) (hfit : f + n ≤ row.length) :
    ∃ X', (Instr.storeAt t (a.eval p) (a.eval x)).run P X.w = .ok () X'.w ∧ Goes X X' ∧ Good X' (All a gv) (turn s o f0 es f' (rows.set i (layP ps f row)) σ1) NoE := by
  have hx0 := opd_sv (T := T) (ty := oty) hg hN x
  obtain ⟨hc, _⟩ := cells_flat hx0 hx
  obtain ⟨X1, k1, hr⟩ := nestAll_good (All a gv) hg hc.ocells h
  have hp1 := opd_sv (T := T) (ty := oty) k1.good hN p
  rw [hp] at hp1
  have hp0 := hp1 0
  generalize hpv : a.eval p = pv at hp0
  have hps : ps.length = n := by rw [← hr.length, hc.length, hlen]
  have hvl : (a.eval x).cells.toList.length = n := by rw [hc.length, hlen]
  have hil : i < rows.length := (List.getElem?_eq_some_iff.1 hrow).1
  -- the owner
  obtain ⟨sh, l, hσ1, hlo⟩ : ∃ sh l, σ1[s]? = some (.c sh l) ∧ l.getD o .dead = .ow f0 es rows := by
    unfold cellAt at hcell
    rw [List.getD_eq_getElem?_getD] at hcell
    cases e : σ1[s]? with
    | none => simp [e] at hcell
    | some y =>
      cases y with
      | c sh l => exact ⟨sh, l, rfl, by simpa [e] using hcell⟩
      | _ => simp [e] at hcell
  have hlt : s < σ1.length := (List.getElem?_eq_some_iff.1 hσ1).1
  have hlv : s < (All a gv).length := by rw [k1.good.frame.1]; exact hlt
  have hfr := k1.good.frame.2 s _ _ (List.getElem?_eq_getElem hlv) hσ1
  generalize (All a gv)[s] = v1 at hfr
  have hcv : ∃ v, CVRel X1 s o v (.ow f0 es rows) := by
    have : ∀ {vs : List Value} {l : List CV} {j : Nat}, CellsRel X1 s j vs l → ∀ q c, l[q]? = some c → ∃ v, CVRel X1 s (j + q) v c := by
      intro vs l j hcr
      induction hcr with
      | nil j => intro q c e; simp at e
      | cons j v cv vs l h t ih =>
        intro q c e
        cases q with
        | zero => simp at e; subst e; exact ⟨v, h⟩
        | succ q =>
          obtain ⟨u, hu⟩ := ih q c (by simpa using e)
          exact ⟨u, by rw [show j + (q + 1) = j + 1 + q from by omega]; exact hu⟩
    have e1 : l[o]? = some (.ow f0 es rows) := by
      rw [List.getD_eq_getElem?_getD] at hlo
      cases e : l[o]? with
      | none => simp [e] at hlo
      | some y => simpa [e] using hlo
    have hcr : ∃ vs, CellsRel X1 s 0 vs l := by
      cases sh with
      | box => obtain ⟨_, _, _, c, _, _, _, _, _, _, hcr⟩ := box_inv hfr; exact ⟨_, hcr⟩
      | _ => cases hfr with | c _ _ vs _ hf hcr => exact ⟨vs, hcr⟩
    obtain ⟨vs, hcr⟩ := hcr
    obtain ⟨v, hv⟩ := this hcr o _ e1
    exact ⟨v, by simpa using hv⟩
  obtain ⟨v0, hcv⟩ := hcv
  cases hcv with
  | ow0 => simp at hrow
  | ow _ _ _ _ blk off cap c elem fr hw =>
    cases hp0 with
    | epv => omega
    | ep _ _ _ _ _ _ _ _ blk1 off1 base tip c1 elem1 fr1 ho1 he1 hl1 hb1 hfr1 hr1 =>
      have e1 : blk1 = blk := k1.good.inv.one _ _ _ _ _ _ _ _ ho1 hw.own
      subst e1
      have e2 := ho1.symm.trans hw.own
      injection e2 with e2; injection e2 with _ e2; injection e2 with _ e2; injection e2 with e2 e3
      subst e2; subst e3
      obtain ⟨g1, g2⟩ := hw.reads.get i row hrow
      have hsz1 : base + i * es + es ≤ c.size := by
        have h1 : (i + 1) * es ≤ cap * es := Nat.mul_le_mul_right _ (by have := hw.le; omega)
        rw [Nat.add_mul] at h1
        have := hw.fits
        omega
      have hw1 : X1.w = X.w := k1.w
      have hone : ∀ v ∈ (a.eval x).cells.toList, v.oneCell' = true := by
        have : ∀ {vs : List Value} {ps : List PV}, RdL X1 f' vs ps → ∀ v ∈ vs, v.oneCell' = true := by
          intro vs ps hr
          induction hr with
          | nil => intro v hv; simp at hv
          | cons v p vs ps h t ih =>
            intro u hu
            rcases List.mem_cons.1 hu with e | e
            · subst e; exact rd_one h
            · exact ih u e
        exact this hr
      obtain ⟨w', c', hrun, hwr, hcc⟩ := run_write (P := P) (w := X1.w) (b := blk1) (o := off1 + f) hw.cells hw.loose (vs := (a.eval x).cells.toList) (by rw [hvl, he1]; omega) hone
      have hfit2 : off1 + f + (a.eval x).cells.toList.length ≤ c.size := by rw [hvl, he1]; omega
      have hget := wrote_get hcc hfit2
      have hV : ∀ fl b, X1.V fl b → (X1.turned w').V fl b ∧ w'.heap[b]? = X1.w.heap[b]? := fun fl b hb => turned_V k1.good.inv hwr ho1 fl b hb
      have hrows : RdRows w'.heap ((X1.turned w').V (f0 || f')) c' base es (rows.set i (layP ps f row)) := by
        have hr0 : RdRows w'.heap ((X1.turned w').V (f0 || f')) c base es rows := hw.reads.mono fun b hb => ⟨(hV _ b (V_or f' hb)).1, (hV _ b hb).2⟩
        have hlp : f + ps.length ≤ row.length := by omega
        refine rows_set' hr0 hil (by rw [layP_length hlp]; exact g1) (fun j q hj => ?_) fun k hk => ?_
        · rw [layP_get hlp] at hj
          rw [hget]
          rw [hvl, he1]
          split at hj
          · rename_i h1
            rw [if_pos (by omega)]
            obtain ⟨y, hy, hyr⟩ := g2.get j q hj
            exact ⟨y, hy, hyr.mono fun b hb => ⟨(hV _ b (V_or f' hb)).1, (hV _ b hb).2⟩⟩
          · rename_i h1
            split at hj
            · rename_i h2
              rw [if_neg (by omega), if_pos (by omega)]
              obtain ⟨y, hy, hyr⟩ := hr.get (j - f) q hj
              refine ⟨y, ?_, hyr.mono fun b hb => ⟨(hV _ b (V_or' f0 hb)).1, (hV _ b hb).2⟩⟩
              rw [← hy]; congr 1; omega
            · rename_i h2
              rw [if_neg (by omega), if_neg (by omega)]
              obtain ⟨y, hy, hyr⟩ := g2.get j q hj
              exact ⟨y, hy, hyr.mono fun b hb => ⟨(hV _ b (V_or f' hb)).1, (hV _ b hb).2⟩⟩
        · rw [hget, hvl, he1]
          rcases hk with hk | hk
          · rw [if_pos (by omega)]
          · rw [if_neg (by omega), if_neg (by omega)]
      obtain ⟨G, hgood⟩ := turn_good k1.good hwr ho1 hw.cells (wrote_size hcc hfit2) hcell (by simp) hrows
      rw [hw1] at hrun
      exact ⟨X1.turned w', run_storeAt hT hn hvl hrun, k1.goes.trans G, hgood⟩

end Go.Proofs.YticgilhndadkiaaGreatDoor.R

/- What is appended or copied: the source. -/
set_option linter.unusedVariables false
set_option linter.unusedSimpArgs false
namespace Go.Proofs.YticgilhndadkiaaGreatDoor.R
open Go

/-- The values that make up rows. -/
structure RdN (h : Array Obj) (V : Nat → Prop) (news : List Value) (es : Nat) (rows : List (List PV)) : Prop where
  len : news.length = rows.length * es
  row : ∀ (i : Nat) (row : List PV), rows[i]? = some row → row.length = es ∧ ∀ (j : Nat) (p : PV), row[j]? = some p → ∃ x, news[i * es + j]? = some x ∧ Rd h V x p

theorem RdN.mono {h h' : Array Obj} {V V' : Nat → Prop} {news : List Value} {es : Nat} {rows : List (List PV)} (x : RdN h V news es rows) (H : ∀ b, V b → V' b ∧ h'[b]? = h[b]?) : RdN h' V' news es rows :=
  ⟨x.len, fun i row e => ⟨(x.row i row e).1, fun j p hj => let ⟨u, h1, h2⟩ := (x.row i row e).2 j p hj; ⟨u, h1, h2.mono H⟩⟩⟩

theorem RdN.append {h : Array Obj} {V : Nat → Prop} {l m : List Value} {es : Nat} {a b : List (List PV)} (x : RdN h V l es a) (y : RdN h V m es b) : RdN h V (l ++ m) es (a ++ b) := by
  refine ⟨by rw [List.length_append, List.length_append, x.len, y.len, Nat.add_mul], fun i row e => ?_⟩
  by_cases hi : i < a.length
  · rw [List.getElem?_append_left hi] at e
    obtain ⟨h1, h2⟩ := x.row i row e
    refine ⟨h1, fun j p hj => ?_⟩
    obtain ⟨u, h3, h4⟩ := h2 j p hj
    exact ⟨u, by rw [List.getElem?_append_left (List.getElem?_eq_some_iff.1 h3).1]; exact h3, h4⟩
  · rw [List.getElem?_append_right (by omega)] at e
    obtain ⟨h1, h2⟩ := y.row _ row e
    refine ⟨h1, fun j p hj => ?_⟩
    obtain ⟨u, h3, h4⟩ := h2 j p hj
    refine ⟨u, ?_, h4⟩
    have : i * es = a.length * es + (i - a.length) * es := by rw [← Nat.add_mul]; congr 1; omega
    rw [List.getElem?_append_right (by rw [x.len]; omega), x.len, ← h3]
    congr 1; omega

theorem RdN.rows {h : Array Obj} {V : Nat → Prop} {news : List Value} {es : Nat} {rows : List (List PV)} (x : RdN h V news es rows) {c : Array Value} {off : Nat} (hc : ∀ (j : Nat) (u : Value), news[j]? = some u → c[off + j]? = some u) : RdRows h V c off es rows :=
  RdRows.mk fun i row e => ⟨(x.row i row e).1, RdRow.mk fun j p hj => by
    obtain ⟨u, h1, h2⟩ := (x.row i row e).2 j p hj
    exact ⟨u, by rw [← hc _ _ h1]; congr 1; omega, h2⟩⟩

theorem RdN.one {h : Array Obj} {V : Nat → Prop} {news : List Value} {es : Nat} {rows : List (List PV)} (x : RdN h V news es rows) : ∀ u ∈ news, u.oneCell' = true := by
  intro u hu
  obtain ⟨k, hk, e⟩ := List.getElem_of_mem hu
  have hes : 0 < es := by
    rcases Nat.eq_zero_or_pos es with h0 | h0
    · have := x.len; rw [h0] at this; omega
    · exact h0
  have hi : k / es < rows.length := by
    have := x.len
    exact (Nat.div_lt_iff_lt_mul hes).2 (by omega)
  obtain ⟨h1, h2⟩ := x.row (k / es) _ (List.getElem?_eq_getElem hi)
  have hj : k % es < rows[k / es].length := by rw [h1]; exact Nat.mod_lt _ hes
  obtain ⟨y, h3, h4⟩ := h2 (k % es) _ (List.getElem?_eq_getElem hj)
  have : k / es * es + k % es = k := by rw [Nat.mul_comm]; exact Nat.div_add_mod k es
  rw [this, List.getElem?_eq_getElem hk] at h3
  injection h3 with h3
  rw [← e, h3]
  exact rd_one h4

theorem rdn_of_rows {h : Array Obj} {V : Nat → Prop} {c : Array Value} {off es : Nat} {rows : List (List PV)} (x : RdRows h V c off es rows) : ∃ news, RdN h V news es rows ∧ ∀ (j : Nat) (u : Value), news[j]? = some u → c[off + j]? = some u := by
  refine ⟨(c.toList.drop off).take (rows.length * es), ⟨?_, fun i row e => ?_⟩, fun j u e => ?_⟩
  · rw [List.length_take, List.length_drop]
    refine Nat.min_eq_left ?_
    rcases Nat.eq_zero_or_pos (rows.length * es) with h0 | h0
    · omega
    · have hr : 0 < rows.length := Nat.pos_of_ne_zero fun e => by rw [e] at h0; simp at h0
      have hes : 0 < es := Nat.pos_of_ne_zero fun e => by rw [e] at h0; simp at h0
      obtain ⟨h1, h2⟩ := x.get (rows.length - 1) _ (List.getElem?_eq_getElem (by omega))
      have hj : es - 1 < (rows[rows.length - 1]'(by omega)).length := by rw [h1]; omega
      obtain ⟨y, hy, _⟩ := h2.get (es - 1) _ (List.getElem?_eq_getElem hj)
      have hlt := (Array.getElem?_eq_some_iff.1 hy).1
      have : rows.length * es = (rows.length - 1) * es + es := by
        have := Nat.succ_mul (rows.length - 1) es
        rw [show (rows.length - 1).succ = rows.length from by omega] at this
        exact this
      simp
      omega
  · obtain ⟨h1, h2⟩ := x.get i row e
    refine ⟨h1, fun j p hj => ?_⟩
    obtain ⟨y, hy, hr⟩ := h2.get j p hj
    refine ⟨y, ?_, hr⟩
    have hi := (List.getElem?_eq_some_iff.1 e).1
    have hjl := (List.getElem?_eq_some_iff.1 hj).1
    have : (i + 1) * es ≤ rows.length * es := Nat.mul_le_mul_right _ hi
    rw [Nat.add_mul] at this
    rw [List.getElem?_take, if_pos (by omega), List.getElem?_drop, ← hy]
    simp [Nat.add_assoc]
  · rw [List.getElem?_take] at e
    split at e
    · rw [List.getElem?_drop] at e
      simpa using e
    · simp at e

/-- What a slice cell holds. -/
theorem slice_cell {X : Ctx} {k j : Nat} {v : Value} {c : CV} {f : Bool} {es : Nat} {rows : List (List PV)} (h : CVRel X k j v c) (e : c.p? = some (f, .s es rows)) :
    (rows = [] ∧ ∃ a cap, v = .slice a 0 cap) ∨ ∃ (blk off cap : Nat) (cc : Array Value) (elem : TypeId) (fr : Nat × Nat), v = .slice (some ⟨blk, off, none⟩) rows.length cap ∧ rows.length ≤ cap ∧ X.w.heap[blk]? = some (.cells cc elem fr) ∧ RdRows X.w.heap (X.V f) cc off es rows := by
  have hrd : ∀ {f : Bool}, Rd X.w.heap (X.V f) v (.s es rows) → (rows = [] ∧ ∃ a cap, v = .slice a 0 cap) ∨ ∃ (blk off cap : Nat) (cc : Array Value) (elem : TypeId) (fr : Nat × Nat), v = .slice (some ⟨blk, off, none⟩) rows.length cap ∧ rows.length ≤ cap ∧ X.w.heap[blk]? = some (.cells cc elem fr) ∧ RdRows X.w.heap (X.V f) cc off es rows := fun r => by
    cases r with
    | s0 a cap _ => exact .inl ⟨rfl, a, cap, rfl⟩
    | s blk off n cap _ cc elem fr _ hv hb hn hc hr => subst hn; exact .inr ⟨blk, off, cap, cc, elem, fr, rfl, hc, hb, hr⟩
  cases c with
  | sh f0 p =>
    simp only [CV.p?] at e
    injection e with e; injection e with e1 e2; subst e1; subst e2
    cases h with | sh _ _ _ h => exact hrd h
  | ow f0 es0 rows0 =>
    simp only [CV.p?] at e
    injection e with e; injection e with e1 e2; injection e2 with e2 e3; subst e1; subst e2; subst e3
    cases h with
    | ow0 _ _ a => exact .inl ⟨rfl, a, 0, rfl⟩
    | ow _ _ _ _ blk off cap c elem fr h => exact .inr ⟨blk, off, cap, c, elem, fr, h.val, h.le, h.cells, h.reads⟩
  | br s o kd lo f0 es0 rows0 =>
    simp only [CV.p?] at e
    injection e with e; injection e with e1 e2; injection e2 with e2 e3; subst e1; subst e2; subst e3
    cases h with
    | br0 _ _ _ _ _ _ a => exact .inl ⟨rfl, a, 0, rfl⟩
    | br _ _ _ _ _ _ _ _ blk base tip cap c elem fr h => exact .inr ⟨blk, _, cap, c, elem, fr, h.val, h.le, h.cells, h.reads⟩
    | brv _ _ _ _ _ _ _ h => exact hrd h
  | dead => simp [CV.p?] at e

theorem firstCells_at {P : Program} {w : World} {size n cap blk off : Nat} {c : Array Value} {elem : TypeId} {fr : Nat × Nat} (hb : w.heap[blk]? = some (.cells c elem fr)) {news : List Value} (hl : news.length = n * size) (h : ∀ (j : Nat) (u : Value), news[j]? = some u → c[off + j]? = some u) (m : Nat) :
    (Builtin.firstCells size n (.slice (some ⟨blk, off, none⟩) m cap)).run P w = .ok news.toArray w :=
  run_firstCells_some w size n ⟨blk, off, none⟩ m cap news hl fun j u e => by rw [add_none, cell_none hb]; exact h j u e

theorem firstCells_zero {P : Program} {w : World} (size : Nat) (a : Option Addr) (m cap : Nat) : (Builtin.firstCells size 0 (.slice a m cap)).run P w = .ok #[] w := by
  cases a with
  | none => exact run_firstCells_none w size 0 m cap
  | some a => exact run_firstCells_some w size 0 a m cap [] (by simp) (by simp)

theorem bytes_rdn (h : Array Obj) (V : Nat → Prop) (s : ByteArray) : RdN h V (byteCells s) 1 (rowsOf s) := by
  refine ⟨by rw [byteCells_length, rowsOf_length, Nat.mul_one], fun i row e => ?_⟩
  simp only [rowsOf, List.getElem?_map] at e
  obtain ⟨x, h1, h2⟩ := some_map e
  subst h2
  refine ⟨rfl, fun j p hj => ?_⟩
  cases j with
  | succ j => simp at hj
  | zero =>
    simp at hj; subst hj
    refine ⟨.int .u8 x.toNat, ?_, .i _ _⟩
    rw [Nat.mul_one, Nat.add_zero]
    simp only [byteCells, List.getElem?_map, h1]
    rfl

/-- The second argument of an append. -/
theorem src_ok {P : Program} {T : Tys} (hT : TOk P T) {X : Ctx} {v : Value} {y : SV} (hy : OSV X v y) {e u : TypeId} {es : Nat} (hu : ((T.sl u).isSome || T.str u) = true) {i : TypeInfo} (hi : i.size = es) {f : Bool} {rows : List (List PV)} (h : srcOf T e es y = some (f, rows)) :
    ∃ news, Src P i.size u v rows.length news X.w ∧ RdN X.w.heap (X.V f) news es rows := by
  have hk : (∃ e', P.underlying u = some (.slice e')) ∨ P.underlying u = some .string := by
    rw [Bool.or_eq_true] at hu
    rcases hu with hu | hu
    · obtain ⟨e', he⟩ := Option.isSome_iff_exists.1 hu
      exact .inl ⟨e', hT.sl u e' he⟩
    · exact .inr (hT.str u hu)
  unfold srcOf at h
  split at h
  · rename_i c hc
    obtain ⟨h1, h2⟩ := one_sv hy hc
    split at h
    · rename_i f0 s hp
      split at h
      · rename_i hcond
        injection h with h; injection h with e1 e2; subst e1; subst e2
        obtain ⟨V, hr⟩ := p_rd (h1 0) hp
        cases hr with
        | t _ =>
          refine ⟨byteCells s, ⟨hk, fun _ => ?_, ?_, ?_, by rw [byteCells_length, rowsOf_length, hi, hcond.1, Nat.mul_one], fun u hu => by obtain ⟨_, _, rfl⟩ := List.mem_map.1 hu; rfl⟩, by rw [hcond.1]; exact bytes_rdn _ _ s⟩
          · rw [rowsOf_length]; rfl
          · rw [hi, hcond.1, rowsOf_length]; exact firstCells_string s _
          · rw [hi, hcond.1, rowsOf_length]; exact firstCells_string s _
      · simp at h
    · rename_i f0 es0 rows0 hp
      split at h
      · rename_i hcond
        injection h with h; injection h with e1 e2; subst e1; subst e2
        rcases slice_cell (h1 0) hp with ⟨e3, a, cap, e4⟩ | ⟨blk, off, cap, cc, elem, fr, e4, hle, hb, hr⟩
        · subst e3; subst e4
          exact ⟨[], ⟨hk, fun _ => rfl, firstCells_zero _ _ _ _, firstCells_zero _ _ _ _, by simp, fun _ h => by simp at h⟩, ⟨by simp, fun i row e => by simp at e⟩⟩
        · subst e4
          rcases hcond with e5 | e5
          · subst e5
            obtain ⟨news, h3, h4⟩ := rdn_of_rows hr
            exact ⟨news, ⟨hk, fun _ => rfl, firstCells_at hb (by rw [hi]; exact h3.len) h4 _, firstCells_at (w := X.w.drew) hb (by rw [hi]; exact h3.len) h4 _, by rw [hi]; exact h3.len, h3.one⟩, h3⟩
          · subst e5
            exact ⟨[], ⟨hk, fun _ => rfl, firstCells_zero _ _ _ _, firstCells_zero _ _ _ _, by simp, fun _ h => by simp at h⟩, ⟨by simp, fun i row e => by simp at e⟩⟩
      · simp at h
    · simp at h
  · simp at h

end Go.Proofs.YticgilhndadkiaaGreatDoor.R

/- append. -/
set_option linter.unusedVariables false
set_option linter.unusedSimpArgs false
namespace Go.Proofs.YticgilhndadkiaaGreatDoor.R
open Go

theorem maps_moved (X : Ctx) (s o d es : Nat) : Maps X (X.retag s o (fun _ _ => none) True) (mvC s o d 0 (some es)) (epTo s o d 0 (some es)) :=
  near_retag.maps (fun k j c h1 h2 => mvC_else h1 h2) (fun _ _ h => epTo_else h)
    (fun v f es1 rows h => by
      simp only [mvC, and_self, if_true]
      split
      · exact .brv d 0 0 f es1 rows v (Rd_of_ow trivial h)
      · exact .dead v)
    (fun k j v kd lo f es1 rows h => by
      simp only [mvC, and_self, if_true]
      split
      · exact .brv d 0 lo f es1 rows v (Rd_of_br trivial h)
      · exact .dead v)
    (fun k v kd fl es i f row h s' o' e1 => by simp [epTo] at e1)

/-- The old array is nobody's own any more. -/
theorem left_good {X : Ctx} {vs : List Value} {σ : St} (hg : Good X vs σ NoE) (s o d kd es : Nat) : Good (X.retag s o (fun _ _ => none) True) vs (if kd = 0 then move s o d 0 (some es) σ else off s o σ) NoE := by
  have hinv : Inv (X.retag s o (fun _ _ => none) True) := hg.inv.retag (fun _ _ _ => rfl) (fun _ _ _ _ _ _ h => by simp at h)
  split
  · exact ⟨hinv, hg.frame.map (maps_moved X s o d es), tags_retag_none hg.tags (mvC_dead s o d 0 (some es)) (fun k j c hc hn => mvC_ow hc hn)⟩
  · exact ⟨hinv, hg.frame.map (maps_off X s o _ True), tags_retag_none hg.tags (offC_dead s o) (fun k j c hc hn => offC_ow hc hn)⟩

theorem left_bare {X : Ctx} {σ : St} {d : Nat} (hb : Bare X σ d) (s o kd es : Nat) {T : Nat → Nat → Option Own} (hT : ∀ base tip, T base tip = none) (Q : Prop) : Bare (X.retag s o T Q) (if kd = 0 then move s o d 0 (some es) σ else off s o σ) d := by
  refine ⟨fun p => (hb.1 p).retag fun _ _ _ ht => by simp [hT] at ht, fun b base tip h => ?_, fun p => ?_, fun l h => ?_⟩
  · rcases retag_own_cases h with ⟨h2, _⟩ | ⟨base', tip', _, h3⟩
    · exact hb.2.1 _ _ _ h2
    · simp [hT] at h3
  · split
    · exact isOw_map _ _ σ d p (mvC_dead s o d 0 (some es) d p) (mvC_no s o d 0 (some es) d p) (hb.2.2.1 p)
    · exact isOw_map _ _ σ d p (offC_dead s o d p) (offC_no s o d p) (hb.2.2.1 p)
  · split at h
    · obtain ⟨m, hm⟩ := (mapSt_shape _ _ _ _ _).1 ⟨l, h⟩
      exact hb.2.2.2 m hm
    · obtain ⟨m, hm⟩ := (mapSt_shape _ _ _ _ _).1 ⟨l, h⟩
      exact hb.2.2.2 m hm

theorem left_size (σ : St) (s o d kd es : Nat) : (if kd = 0 then move s o d 0 (some es) σ else off s o σ).length = σ.length := by
  split <;> exact mapSt_length _ _ _ _

/-- A grown array. -/
theorem grown_eff {X1 : Ctx} {w' : World} {vs : List Value} {σ : St} {d : Nat} (hg : Good X1 vs σ NoE) (hb : Bare X1 σ d) (hd : d < σ.length) {c : Array Value} {elem : TypeId} {news : List Value} {f : Bool} {es cap : Nat} {rows : List (List PV)} (hn : RdN X1.w.heap (X1.V f) news es rows)
    (hp : Pushes X1.w w' (.cells c elem (0, 0))) (hc : ∀ (j : Nat) (u : Value), news[j]? = some u → c[j]? = some u) (hcap : rows.length ≤ cap) (hfit : cap * es ≤ c.size) :
    Eff X1 (X1.made w' (d, 1, 0, rows.length)) vs σ d (.slice (some ⟨X1.w.heap.size, 0, none⟩) rows.length cap) (.c .one [.ow f es rows]) :=
  eff_pure hg hb hd (pure_made hg.inv (hb.1 0) hp (free0 _) hcap hfit fun X' hm hw => by
    refine RdN.rows (hn.mono fun b hb => ?_) fun j u h => by rw [Nat.zero_add]; exact hc j u h
    have h1 := hm.V f b hb
    rw [← hw]
    exact h1)

theorem zeroCells_size (z : Array Value) (n : Nat) : (Builtin.zeroCells z n).size = n * z.size := by simp [Builtin.zeroCells]

theorem append_grow {P : Program} {T : Tys} (hT : TOk P T) {X : Ctx} {X1 : Ctx} (hw : X1.w = X.w) {vs : List Value} {σ : St} {d : Nat} (hg : Good X1 vs σ NoE) (hb : Bare X1 σ d) (hd : d < σ.length) {t u ty e : TypeId} {es bs : Nat} {z : List PV}
    (h1 : T.sl t = some e) (h2 : T.sz e = some es) (h3 : T.byt e = some bs) (h4 : T.zr e = some z) (hz : z.length = es) {base : Option Addr} {sCap : Nat} {f : Bool} {rows ys : List (List PV)} {olds news : List Value} {yv : Value} {i : TypeInfo} (hi : P.info? e = some i) (hsz : i.size = es) (hsrc : Src P i.size u yv ys.length news X.w)
    (hold : (Builtin.firstCells i.size rows.length (.slice base rows.length sCap)).run P X.w.drew = .ok olds.toArray X.w.drew) (ho : RdN X1.w.heap (X1.V f) olds es rows) (hn : RdN X1.w.heap (X1.V f) news es ys) (hgr : sCap < rows.length + ys.length) (hlim : (rows.length + ys.length) * bs ≤ LIM) (hb0 : ys.length + rows.length ≤ 4611686018427387904) :
    ∃ v X', (Builtin.append_ #[t, u] ty #[.slice base rows.length sCap, yv]).run P X.w = .ok v X'.w ∧ Eff X1 X' vs σ d v (.c .one [.ow f es (rows ++ ys)]) := by
  obtain ⟨i2, hi2, hby⟩ := hT.byt e bs h3
  obtain ⟨i3, zv, hi3, hz1, hz2, _⟩ := hT.zr e z h4
  rw [hi] at hi2 hi3
  injection hi2 with hi2; injection hi3 with hi3
  subst hi2; subst hi3
  have hrun := run_append_grow_src (P := P) X.w t u ty e i zv (hT.sl t e h1) hi hz1 base rows.length sCap olds hold yv ys.length news hsrc hgr (by omega) (by
    refine growslice_fits hgr ?_
    rw [hby]
    exact Nat.le_trans hlim (by decide))
  have hge := grownCap_ge X.w (rows.length + ys.length) sCap e
  have hzs : zv.cells.size = es := by
    have := congrArg List.length hz2
    simp [hz] at this
    exact this
  have hp : Pushes X1.w (X.w.drew.alloc (.cells ((olds ++ news).toArray ++ Builtin.zeroCells zv.cells (grownCap X.w (rows.length + ys.length) sCap e - (rows.length + ys.length))) e)) (.cells ((olds ++ news).toArray ++ Builtin.zeroCells zv.cells (grownCap X.w (rows.length + ys.length) sCap e - (rows.length + ys.length))) e (0, 0)) :=
    ⟨by rw [hw]; rfl, by rw [hw]; rfl, by rw [hw]; rfl, by rw [hw]; rfl⟩
  have he := grown_eff (f := f) (es := es) (rows := rows ++ ys) (cap := grownCap X.w (rows.length + ys.length) sCap e) hg hb hd (ho.append hn) hp (fun j u h => by
      rw [Array.getElem?_append_left (by have := (List.getElem?_eq_some_iff.1 h).1; simpa using this)]
      simpa using h) (by simpa using hge) (by
      rw [Array.size_append, zeroCells_size, hzs]
      simp only [List.size_toArray, List.length_append, ho.len, hn.len]
      rw [← Nat.add_mul, ← Nat.add_mul]
      exact Nat.mul_le_mul_right _ (by omega))
  refine ⟨_, _, ?_, he⟩
  rw [hrun, hw]
  simp only [List.length_append]
  rfl

/-- An append in place. -/
theorem append_room {P : Program} {T : Tys} (hT : TOk P T) {X : Ctx} {vs : List Value} {σ : St} {s o d kd lo : Nat} (hg : Good X vs σ NoE) (hb : Bare X σ d) (hd : d < σ.length) {t u ty e : TypeId} {es : Nat}
    (h1 : T.sl t = some e) {f fy : Bool} {rows ys : List (List PV)} {news : List Value} {xv yv : Value} {i : TypeInfo} (hi : P.info? e = some i) (hsz : i.size = es) (hsrc : Src P i.size u yv ys.length news X.w)
    {blk base tip cap : Nat} {c : Array Value} {elem : TypeId} {fr : Nat × Nat} (hbr : BrRel X s o kd lo xv f es rows blk base tip cap c elem fr) (hkd : kd ≤ 1) (hn : RdN X.w.heap (X.V fy) news es ys) (hroom : rows.length + ys.length ≤ cap) :
    ∃ v X', (Builtin.append_ #[t, u] ty #[xv, yv]).run P X.w = .ok v X'.w ∧ Eff X X' vs (if kd = 0 then move s o d 0 (some es) σ else off s o σ) d v (.c .one [.ow (f || fy) es (rows ++ ys)]) := by
  have hi0 := hg.inv
  have htip := hbr.tip1 hkd
  have hnl : news.length = ys.length * es := hn.len
  have hmul : (rows.length + ys.length) * es ≤ cap * es := Nat.mul_le_mul_right _ hroom
  rw [Nat.add_mul] at hmul
  have hfits := hbr.fits
  have hfit2 : base + lo * es + rows.length * es + news.length ≤ c.size := by rw [hnl]; omega
  have hplace : base + lo * es + rows.length * es = base + tip * es := by rw [← htip, Nat.add_mul]; omega
  obtain ⟨c', hwr, hcc⟩ := wrote_cells blk news (base + lo * es + rows.length * es) hbr.cells hfit2
  have hget := wrote_get hcc hfit2
  have hcs := wrote_size hcc hfit2
  have hrun := run_append_room_src (P := P) X.w t u ty e i (hT.sl t e h1) hi blk (base + lo * es) rows.length cap yv ys.length news hsrc hroom (fun j hj => by
    rw [cell_none hbr.cells, hsz, Array.getElem?_eq_getElem (by omega)]; rfl) (fun j hj => by
    have := hbr.loose (base + lo * es + rows.length * i.size + j) (by rw [hsz]; omega)
    simp only [World.frozen?, hbr.cells]
    simpa using this)
  rw [hsz] at hrun
  let Tg : Nat → Nat → Option Own := fun _ _ => some (d, 1, base + lo * es, rows.length + ys.length)
  have hTg : ∀ b0 t0 t, Tg b0 t0 = some t → t.1 = d ∧ t.2.1 = 0 + 1 := fun b0 t0 t ht => by injection ht with ht; subst ht; exact ⟨rfl, rfl⟩
  let X' : Ctx := (X.retag s o Tg False).turned (X.w.setCells blk (base + lo * es + rows.length * es) news)
  have hwr' : Wrote (X.retag s o Tg False).w (X.w.setCells blk (base + lo * es + rows.length * es) news) blk c' elem fr := hwr
  have hown1 : (X.retag s o Tg False).own blk = some (d, 1, base + lo * es, rows.length + ys.length) := retag_same hbr.own
  have hinv1 : Inv (X.retag s o Tg False) := hi0.retag (fun h => h.elim) (fun base0 tip0 s1 p1 base1 tip1 ht _ b base2 tip2 => by
    injection ht with ht; injection ht with e1 ht; injection ht with e2 ht; subst e1; subst e2
    exact hb.1 0 b base2 tip2)
  have hinv : Inv X' := turned_inv hinv1 hwr'.size
  have hG : Goes X X' := (goes_retag X s o Tg False).trans (turned_goes hwr' hown1)
  have hVb : ∀ fl b, X.V fl b → X'.V fl b ∧ X'.w.heap[b]? = X.w.heap[b]? := fun fl b hv => by
    have h2 := (near_retag (X := X) (s := s) (o := o) (T := Tg) (Q := False)).V fl b hv
    have h3 := turned_V hinv1 hwr' hown1 fl b h2.1
    exact ⟨h3.1, h3.2⟩
  have hNear : Near s o X X' := ⟨hVb, fun b s' p base' tip' h hne => by
    refine ⟨retag_other (T := Tg) (Q := False) h hne, hwr.else_ b fun e => ?_⟩
    subst e
    rw [hbr.own] at h
    injection h with h; injection h with e1 h; injection h with e2 _
    exact hne ⟨e1.symm, e2.symm⟩⟩
  -- what was there reads as before
  have hkeep : ∀ {fl : Bool} {off : Nat} {rs : List (List PV)}, off + rs.length * es ≤ base + tip * es → RdRows X.w.heap (X.V fl) c off es rs → RdRows X'.w.heap (X'.V fl) c' off es rs := fun {fl off rs} hle hr => by
    refine RdRows.mk fun i row he => ?_
    obtain ⟨g1, g2⟩ := hr.get i row he
    refine ⟨g1, RdRow.mk fun j p hj => ?_⟩
    obtain ⟨y, hy, hyr⟩ := g2.get j p hj
    refine ⟨y, ?_, hyr.mono (hVb fl)⟩
    have hil := (List.getElem?_eq_some_iff.1 he).1
    have hjl := (List.getElem?_eq_some_iff.1 hj).1
    have : (i + 1) * es ≤ rs.length * es := Nat.mul_le_mul_right _ hil
    rw [Nat.add_mul] at this
    rw [hget, if_pos (by omega)]
    exact hy
  have hnew : RdRows X'.w.heap (X'.V (f || fy)) c' (base + lo * es) es (rows ++ ys) := by
    obtain ⟨olds, ho, hoc⟩ := rdn_of_rows (hkeep (by rw [← hplace]; exact Nat.le_refl _) hbr.reads)
    have ho2 : RdN X'.w.heap (X'.V (f || fy)) olds es rows := ho.mono fun b hb => ⟨V_or fy hb, rfl⟩
    have hn2 : RdN X'.w.heap (X'.V (f || fy)) news es ys := hn.mono fun b hb => ⟨V_or' f (hVb fy b hb).1, (hVb fy b hb).2⟩
    refine (ho2.append hn2).rows fun j u hj => ?_
    by_cases hj2 : j < olds.length
    · rw [List.getElem?_append_left hj2] at hj
      exact hoc j u hj
    · rw [List.getElem?_append_right (by omega)] at hj
      have hjl := (List.getElem?_eq_some_iff.1 hj).1
      rw [ho.len] at hj hj2 hjl
      rw [hget, if_neg (by omega), if_pos (by omega), ← hj]
      congr 1; omega
  have hbwAt : ∀ b0 bs0 tp0, X.own b0 = some (s, o + 1, bs0, tp0) → b0 = blk ∧ bs0 = base ∧ tp0 = tip := fun b0 bs0 tp0 h => by
    have e1 := hi0.one _ _ _ _ _ _ _ _ h hbr.own
    subst e1
    have e2 := h.symm.trans hbr.own
    injection e2 with e2; injection e2 with _ e2; injection e2 with _ e2; injection e2 with e2 e3
    exact ⟨rfl, e2, e3⟩
  have hframe : Frame X' vs (if kd = 0 then move s o d 0 (some es) σ else off s o σ) := by
    split
    · rename_i hk0
      have hlo := hbr.lo0 hk0
      subst hlo
      refine hg.frame.map (hNear.maps (fun k j c h1 h2 => mvC_else h1 h2) (fun _ _ h => epTo_else h) ?_ ?_ ?_)
      · intro v f1 es1 rows1 hv
        simp only [mvC, and_self, if_true]
        split
        case isFalse => exact .dead v
        rename_i hes
        subst hes
        cases hv with
        | ow0 _ _ a => exact .br0 d 0 2 0 f1 es1 a
        | ow _ _ _ _ blk1 off1 cap1 c1 elem1 fr1 hw =>
          obtain ⟨e1, e2, e3⟩ := hbwAt _ _ _ hw.own
          subst e1; subst e2
          have e4 := hw.cells.symm.trans hbr.cells
          injection e4 with e4; injection e4 with e4 e5 e6
          subst e4; subst e5; subst e6
          refine .br d 0 2 0 f1 es1 rows1 v blk1 off1 (rows.length + ys.length) cap1 c' elem1 fr1 ⟨by rw [hw.val]; simp, hw.le, ?_, hwr.at_, by rw [hcs]; simpa using hw.fits, by rw [hcs]; exact hw.loose, by omega, fun h => by omega, fun _ => rfl, ?_⟩
          · show (X.retag s o Tg False).own blk1 = _
            rw [hown1]; simp
          · rw [Nat.zero_mul, Nat.add_zero]
            exact hkeep (by rw [e3]; exact Nat.le_refl _) hw.reads
      · intro k j v kd1 lo1 f1 es1 rows1 hv
        simp only [mvC, and_self, if_true]
        split
        case isFalse => exact .dead v
        rename_i hes
        subst hes
        cases hv with
        | br0 _ _ _ _ _ _ a => exact .br0 d 0 2 lo1 f1 es1 a
        | br _ _ _ _ _ _ _ _ blk1 base1 tip1 cap1 c1 elem1 fr1 hw =>
          obtain ⟨e1, e2, e3⟩ := hbwAt _ _ _ hw.own
          subst e1; subst e2
          have e4 := hw.cells.symm.trans hbr.cells
          injection e4 with e4; injection e4 with e4 e5 e6
          subst e4; subst e5; subst e6
          have hle1 := hw.tipLe
          refine .br d 0 2 lo1 f1 es1 rows1 v blk1 base1 (rows.length + ys.length) cap1 c' elem1 fr1 ⟨hw.val, hw.le, ?_, hwr.at_, by rw [hcs]; exact hw.fits, by rw [hcs]; exact hw.loose, by omega, fun h => by omega, fun h => by omega, ?_⟩
          · show (X.retag s o Tg False).own blk1 = _
            rw [hown1]; simp
          · refine hkeep ?_ hw.reads
            have : (lo1 + rows1.length) * es1 ≤ tip * es1 := Nat.mul_le_mul_right _ (by omega)
            rw [Nat.add_mul] at this
            omega
        | brv _ _ _ _ _ _ _ hw => exact .brv d 0 lo1 f1 es1 rows1 v (hw.mono (hVb f1))
      · intro k v kd1 fl es1 i1 f1 row hv s' o' e1
        simp [epTo] at e1
    · refine hg.frame.map (hNear.maps (fun k j c h1 h2 => offC_else h1 h2) (fun _ _ h => epOff_else h) ?_ ?_ ?_)
      · intro v f1 es1 rows1 hv
        simp only [offC, and_self, if_true]
        exact .dead v
      · intro k j v kd1 lo1 f1 es1 rows1 hv
        simp only [offC, and_self, if_true]
        exact .dead v
      · intro k v kd1 fl es1 i1 f1 row hv s' o' e1
        rw [epOff_self] at e1; simp at e1
  have htags : TagsE X' (if kd = 0 then move s o d 0 (some es) σ else off s o σ) (fun a b => NoE a b ∨ (a = d ∧ b = 0)) := by
    split
    · have := tags_retag (T := Tg) (Q := False) (e := epTo s o d 0 (some es)) hg.tags (mvC_dead s o d 0 (some es)) (fun k j c hc hn => mvC_ow hc hn) hTg
      exact ⟨this.cell, this.box⟩
    · have := tags_retag (T := Tg) (Q := False) (e := epOff s o) hg.tags (offC_dead s o) (fun k j c hc hn => offC_ow hc hn) hTg
      exact ⟨this.cell, this.box⟩
  have hgood : Good X' vs (if kd = 0 then move s o d 0 (some es) σ else off s o σ) (fun a _ => a = d) := ⟨hinv, hframe, fun b s' p b1 t1 h => (htags.cell b s' p b1 t1 h).imp (fun h => h.elim (fun h => h.elim) (fun h => h.1)) id, htags.box⟩
  have hnb : ∀ b b1 t1, X'.own b ≠ some (d, 0, b1, t1) := fun b b1 t1 h => by
    rcases retag_own_cases (Q := False) h with ⟨h2, _⟩ | ⟨_, _, _, h3⟩
    · exact hb.2.1 _ _ _ h2
    · have := (hTg 0 0 _ h3).2
      simp at this
  rw [hbr.val]
  refine ⟨_, X', hrun, hG, good_set hgood (fun _ _ e => e) (.refl X') hinv (by rw [left_size]; exact hd) (fun b t h => .inl h) hnb ?_ ?_ ?_⟩
  · refine .c .one _ [_] _ (.one _ (fun cs e => nomatch e)) (.cons 0 _ _ _ _ (.ow _ es _ _ blk (base + lo * es) cap c' elem fr ⟨by simp, by simpa using hroom, ?_, hwr.at_, by rw [hcs]; exact hfits, by rw [hcs]; exact hbr.loose, hnew⟩) (.nil 1))
    show (X.retag s o Tg False).own blk = _
    rw [hown1]; simp
  · intro b p b1 t1 h
    rcases retag_own_cases (Q := False) h with ⟨h2, _⟩ | ⟨_, _, _, h3⟩
    · exact absurd h2 (hb.1 p _ _ _)
    · have := (hTg 0 0 _ h3).2
      have hp : p = 0 := by simp at this; omega
      subst hp
      rfl
  · intro b b1 t1 h
    exact absurd h (hnb b b1 t1)

/-- append. -/
theorem append_eff {P : Program} {T : Tys} (hT : TOk P T) {X : Ctx} {vs : List Value} {σ σ' : St} {d : Nat} (hg : Good X vs σ NoE) (hb : Bare X σ d) (hd : d < σ.length) {t u ty : TypeId} {xv yv : Value} {x y sv : SV} (hx : OSV X xv x) (hy : OSV X yv y)
    (hu : ((T.sl u).isSome || T.str u) = true) (h : appendSt T σ d t x y = some (σ', sv)) : ∃ v X', (Builtin.append_ #[t, u] ty #[xv, yv]).run P X.w = .ok v X'.w ∧ Eff X X' vs σ' d v sv := by
  unfold appendSt at h
  obtain ⟨e, e1, h⟩ := some_bind h
  obtain ⟨es, e2, h⟩ := some_bind h
  obtain ⟨bs, e3, h⟩ := some_bind h
  obtain ⟨z, e4, h⟩ := some_bind h
  split at h
  · simp at h
  rename_i hz0
  have hz : z.length = es := Classical.byContradiction fun hh => hz0 (.inl hh)
  have hbs : 0 < bs := Nat.pos_of_ne_zero fun hh => hz0 (.inr hh)
  have hmax : ∀ n : Nat, n * bs ≤ LIM → n ≤ 4611686018427387904 := fun n hn => by
    have : n ≤ n * bs := Nat.le_mul_of_pos_right _ hbs
    unfold LIM at hn
    omega
  obtain ⟨⟨fy, ys⟩, e5, h⟩ := some_bind h
  obtain ⟨c, e6, h⟩ := some_bind h
  obtain ⟨i, hi, hsz⟩ := hT.sz e es e2
  obtain ⟨news, hsrc, hn⟩ := src_ok (P := P) hT hy hu hsz e5
  obtain ⟨hc, _⟩ := one_sv hx e6
  simp only at h
  split at h
  · rename_i f0 es0
    split at h
    case isFalse => simp at h
    rename_i hlim
    injection h with h; injection h with h1 h2; subst h1; subst h2
    obtain ⟨_, a, e7⟩ := no_ow hc
    subst e7
    cases ys with
    | nil =>
      have hrun := run_append_nothing (P := P) X.w t u ty e i (hT.sl t e e1) hi a 0 0 (Nat.le_refl _) yv (by
        have : news = [] := List.length_eq_zero_iff.1 (by rw [hn.len]; simp)
        rw [← this]; exact hsrc)
      refine ⟨_, X, hrun, eff_pure hg hb hd (.same hg.inv fun k => .c .one _ [_] _ (.one _ (fun cs e => nomatch e)) (.cons 0 _ _ _ _ (.ow0 fy es a) (.nil 1)))⟩
    | cons y1 ys =>
      have := append_grow (P := P) hT (X := X) (X1 := X) rfl hg hb hd (t := t) (u := u) (ty := ty) e1 e2 e3 e4 hz (base := a) (sCap := 0) (f := fy) (rows := []) (ys := y1 :: ys) (olds := []) hi hsz hsrc (firstCells_zero _ _ _ _) ⟨by simp, fun i row e => by simp at e⟩ hn (by simp) (by simpa using hlim) (by simpa using hmax _ hlim)
      simpa using this
  · rename_i s o kd lo f es' rows
    split at h
    case isFalse => simp at h
    rename_i hcond
    obtain ⟨rfl, hkd, how, hlim⟩ := hcond
    injection h with h; injection h with h1 h2; subst h1; subst h2
    have hgrow : ∀ {base : Option Addr} {sCap : Nat} {olds : List Value}, xv = .slice base rows.length sCap → (Builtin.firstCells i.size rows.length (.slice base rows.length sCap)).run P X.w.drew = .ok olds.toArray X.w.drew → RdN X.w.heap (X.V f) olds es' rows → sCap < rows.length + ys.length →
        ∃ v X', (Builtin.append_ #[t, u] ty #[xv, yv]).run P X.w = .ok v X'.w ∧ Eff X X' vs (if kd = 0 then move s o d 0 (some es') σ else off s o σ) d v (.c .one [.ow (f || fy) es' (rows ++ ys)]) := fun {base sCap olds} e7 hold ho hgr => by
      subst e7
      have hb1 := left_bare hb s o kd es' (T := fun _ _ => none) (fun _ _ => rfl) True
      have hnV : ∀ fl b, X.V fl b → (X.retag s o (fun _ _ => none) True).V fl b ∧ (X.retag s o (fun _ _ => none) True).w.heap[b]? = X.w.heap[b]? := (near_retag).V
      obtain ⟨v, X', hr, hE⟩ := append_grow (P := P) hT (X := X) (X1 := X.retag s o (fun _ _ => none) True) rfl (left_good hg s o d kd es') hb1 (by rw [left_size]; exact hd) (t := t) (u := u) (ty := ty) e1 e2 e3 e4 hz (base := base) (sCap := sCap) (f := f || fy) (rows := rows) (ys := ys) (olds := olds) hi hsz hsrc hold
        (ho.mono fun b hb => ⟨V_or fy (hnV f b hb).1, rfl⟩) (hn.mono fun b hb => ⟨V_or' f (hnV fy b hb).1, rfl⟩) hgr hlim (by rw [Nat.add_comm]; exact hmax _ hlim)
      exact ⟨v, X', hr, (goes_retag X s o _ True).trans hE.goes, hE.good⟩
    have hc0 := hc 0
    cases hc0 with
    | br0 _ _ _ _ _ _ a =>
      cases ys with
      | nil =>
        have hrun := run_append_nothing (P := P) X.w t u ty e i (hT.sl t e e1) hi a 0 0 (Nat.le_refl _) yv (by
          have : news = [] := List.length_eq_zero_iff.1 (by rw [hn.len]; simp)
          rw [← this]; exact hsrc)
        have hE := eff_pure (left_good hg s o d kd es') (left_bare hb s o kd es' (T := fun _ _ => none) (fun _ _ => rfl) True) (by rw [left_size]; exact hd) (PureRes.same (left_good hg s o d kd es').inv (v := .slice a 0 0) (sv := .c .one [.ow (f || fy) es' []]) fun k => .c .one _ [_] _ (.one _ (fun cs e => nomatch e)) (.cons 0 _ _ _ _ (.ow0 _ es' a) (.nil 1)))
        exact ⟨_, X.retag s o (fun _ _ => none) True, hrun, (goes_retag X s o _ True).trans hE.goes, hE.good⟩
      | cons y1 ys => exact hgrow rfl (firstCells_zero _ _ _ _) ⟨by simp, fun i row e => by simp at e⟩ (by simp)
    | br _ _ _ _ _ _ _ _ blk base tip cap c1 elem fr hbr =>
      by_cases hroom : rows.length + ys.length ≤ cap
      · exact append_room hT hg hb hd e1 hi hsz hsrc hbr hkd hn hroom
      · obtain ⟨olds, ho, hoc⟩ := rdn_of_rows hbr.reads
        exact hgrow hbr.val (firstCells_at (w := X.w.drew) hbr.cells (by rw [hsz]; exact ho.len) hoc _) ho (by omega)
    | brv => omega
  · simp at h

end Go.Proofs.YticgilhndadkiaaGreatDoor.R

/- A slice literal whose parts give their slices away. -/
set_option linter.unusedVariables false
set_option linter.unusedSimpArgs false
namespace Go.Proofs.YticgilhndadkiaaGreatDoor.R
open Go

inductive OParts (X : Ctx) (σ : St) : List (Nat × Value) → List (Nat × SV) → Prop
  | nil : OParts X σ [] []
  | cons (i : Nat) (v : Value) (x : SV) (vs : List (Nat × Value)) (ps : List (Nat × SV)) : (∀ cs, cells? x = some cs → OCells X σ v.cells.toList cs) → OParts X σ vs ps → OParts X σ ((i, v) :: vs) ((i, x) :: ps)

theorem OParts.map {X X' : Ctx} {σ σ' : St} (H : ∀ v c, OV X σ v c → OV X' σ' v c) : ∀ {vs : List (Nat × Value)} {ps : List (Nat × SV)}, OParts X σ vs ps → OParts X' σ' vs ps
  | _, _, .nil => .nil
  | _, _, .cons i v x vs ps h t => .cons i v x vs ps (fun cs e => (h cs e).map H) (OParts.map H t)

theorem fill_rows_eff (gv : List Value) {es : Nat} : ∀ {ps : List (Nat × SV)} {vs : List (Nat × Value)} {X : Ctx} {E : Nat → Nat → Prop} {g f' : Bool} {rows rows' : List (List PV)} {σ σ' : St} {z : Array Value}, Good X gv σ E → OParts X σ vs ps →
    RdRows X.w.heap (X.V g) z 0 es rows → z.size = rows.length * es → fillRows es ps g rows σ = some (σ', f', rows') →
      ∃ X' z', Kept X X' gv σ σ' E ∧ Instr.fill (fun i => some (i * es, es)) z vs = some z' ∧ RdRows X'.w.heap (X'.V f') z' 0 es rows' ∧ z'.size = rows'.length * es ∧ rows'.length = rows.length
  | [], vs, X, E, g, f', rows, rows', σ, σ', z, hg, hp, hr, hz, h => by
    cases hp
    simp only [fillRows] at h; injection h with h; injection h with h0 h; injection h with h3 h4; subst h0; subst h3; subst h4
    exact ⟨X, z, .refl hg, rfl, hr, hz, rfl⟩
  | (i, x) :: ps, _, X, E, g, f', rows, rows', σ, σ', z, hg, .cons _ v _ vs _ hv ht, hr, hz, h => by
    simp only [fillRows] at h
    obtain ⟨cs, e2, h⟩ := some_bind h
    obtain ⟨⟨σ1, f1, p1⟩, e3, h⟩ := some_bind h
    obtain ⟨X1, k1, hp⟩ := nestAll_good gv hg (hv cs e2) e3
    simp only at h
    split at h
    · rename_i hle
      have hr1 : RdRows X1.w.heap (X1.V g) z 0 es rows := hr.mono fun b hb => ⟨k1.V g b hb, by rw [k1.w]⟩
      obtain ⟨l1, l2, l3, l4⟩ := rows_lay hr1 hz hle.1 hle.2 hp
      obtain ⟨X2, z', k2, r, q1, q2, q3⟩ := fill_rows_eff gv (ps := ps) (vs := vs) k1.good (ht.map k1.ov) l1 (by rw [l2, hz]; simp) h
      refine ⟨X2, z', k1.trans k2, ?_, q1, q2, by simpa using q3⟩
      simp only [Instr.fill]
      have l5 : ¬(v.cells.size ≠ es ∨ i * es + v.cells.size > z.size) := fun hh => hh.elim (fun h => h l3) fun h => by omega
      rw [if_neg (by simpa using l5)]
      exact r
    · simp at h

theorem nest_shape {c : CV} {σ σ' : St} {f : Bool} {p : PV} (h : nest c σ = some (σ', f, p)) (d : Nat) (sh : Shape) : (∃ m, σ'[d]? = some (.c sh m)) ↔ ∃ m, σ[d]? = some (.c sh m) := by
  unfold nest at h
  split at h
  · injection h with h; injection h with h; subst h; exact Iff.rfl
  · injection h with h; injection h with h; subst h; exact Iff.rfl
  · split at h
    · injection h with h; injection h with h; subst h; exact mapSt_shape _ _ _ _ _
    · simp at h
  · simp at h
theorem nestAll_shape : ∀ {l : List CV} {σ σ' : St} {f : Bool} {ps : List PV}, nestAll l σ = some (σ', f, ps) → ∀ (d : Nat) (sh : Shape), (∃ m, σ'[d]? = some (.c sh m)) ↔ ∃ m, σ[d]? = some (.c sh m)
  | [], σ, σ', f, ps, h, d, sh => by simp only [nestAll] at h; injection h with h; injection h with h; subst h; exact Iff.rfl
  | c :: l, σ, σ', f, ps, h, d, sh => by
    simp only [nestAll] at h
    obtain ⟨⟨σ1, f1, p1⟩, h1, h⟩ := some_bind h
    obtain ⟨⟨σ2, f2, p2⟩, h2, h⟩ := some_map h
    injection h with h _; subst h
    exact (nestAll_shape h2 d sh).trans (nest_shape h1 d sh)
theorem fillRows_shape {es : Nat} : ∀ {ps : List (Nat × SV)} {g f' : Bool} {rows rows' : List (List PV)} {σ σ' : St}, fillRows es ps g rows σ = some (σ', f', rows') → ∀ (d : Nat) (sh : Shape), (∃ m, σ'[d]? = some (.c sh m)) ↔ ∃ m, σ[d]? = some (.c sh m)
  | [], g, f', rows, rows', σ, σ', h, d, sh => by simp only [fillRows] at h; injection h with h; injection h with h; subst h; exact Iff.rfl
  | (i, x) :: ps, g, f', rows, rows', σ, σ', h, d, sh => by
    simp only [fillRows] at h
    obtain ⟨cs, e2, h⟩ := some_bind h
    obtain ⟨⟨σ1, f1, p1⟩, e3, h⟩ := some_bind h
    simp only at h
    split at h
    · exact (fillRows_shape h d sh).trans (nestAll_shape e3 d sh)
    · simp at h

theorem kept_bare {X X' : Ctx} {vs : List Value} {σ σ' : St} {d : Nat} (hb : Bare X σ d) (k : Kept X X' vs σ σ' NoE) (hs : ∀ (sh : Shape), (∃ m, σ'[d]? = some (.c sh m)) ↔ ∃ m, σ[d]? = some (.c sh m)) : Bare X' σ' d := by
  have hbx : ∀ l, σ'[d]? ≠ some (.c .box l) := fun l e => by
    obtain ⟨m, hm⟩ := (hs .box).1 ⟨l, e⟩
    exact hb.2.2.2 m hm
  refine ⟨fun p => k.free d p (hb.1 p), fun b base tip e => ?_, fun p => k.noOw d p (hb.2.2.1 p), hbx⟩
  obtain ⟨l, hl⟩ := k.good.tags.box _ _ _ _ e
  exact hbx l hl

theorem rowlit_eff {P : Program} {T : Tys} (hT : TOk P T) {X : Ctx} {vs : List Value} {σ σ' : St} {d : Nat} (hg : Good X vs σ NoE) (hb : Bare X σ d) (hd : d < σ.length) {t e : TypeId} {es n : Nat} {z : List PV} {parts : List (Nat × Value)} {ps : List (Nat × SV)} {f : Bool} {rows : List (List PV)}
    (h1 : T.sl t = some e) (h2 : T.sz e = some es) (h4 : T.zr e = some z) (hn : n * es ≤ 16777216) (hz : z.length = es) (hp : OParts X σ parts ps)
    (h : fillRows es ps false (List.replicate n z) σ = some (σ', f, rows)) :
    ∃ v X', (Instr.buildSlice t n parts.toArray).run P X.w = .ok v X'.w ∧ Eff X X' vs σ' d v (.c .one [.ow f es rows]) := by
  have hu := hT.sl t e h1
  obtain ⟨i, hi1, hi2⟩ := hT.sz e es h2
  obtain ⟨v0, hr, hc, hpz⟩ := run_zero (w := X.w) hT h4
  have h0 : RdRows X.w.heap (X.V false) (zeroRow v0.cells (n * es)) 0 es (List.replicate n z) := by rw [← hz]; exact zero_rows hc hpz n
  obtain ⟨X1, z', k1, hfill, q1, q2, q3⟩ := fill_rows_eff vs hg hp h0 (by rw [zeroRow_size]; simp) h
  have hlen : rows.length = n := by rw [q3]; simp
  have hpush : Pushes X1.w (X.w.alloc (.cells z' e)) (.cells z' e (0, 0)) := ⟨by rw [k1.w]; rfl, by rw [k1.w]; rfl, by rw [k1.w]; rfl, by rw [k1.w]; rfl⟩
  have hcells : (Array.range (n * es)).map ((if n * es = 0 then (#[] : Array Value) else v0.cells)[· % (if n * es = 0 then (#[] : Array Value) else v0.cells).size]!) = zeroRow v0.cells (n * es) := zeroRow_alt id
  have hE := eff_pure k1.good (kept_bare hb k1 (fillRows_shape h d)) (by rw [k1.size]; exact hd) (pure_made (f := f) (es := es) (rows := rows) (cap := rows.length) k1.good.inv ((kept_bare hb k1 (fillRows_shape h d)).1 0) hpush (free0 _) (Nat.le_refl _) (by rw [q2]; exact Nat.le_refl _) fun X' hm hw => by
    have := q1.mono (V' := X'.V f) (h' := X'.w.heap) fun b hb => hm.V f b hb
    rw [hw] at this
    exact this)
  refine ⟨_, _, ?_, k1.goes.trans hE.goes, hE.good⟩
  unfold Instr.buildSlice
  simp only [Sem.run_bind, run_und hu, Result.andThen_ok, run_siz hi1, hi2]
  rw [if_neg (by omega)]
  by_cases h0 : n * es = 0
  · simp only [if_pos h0] at hcells
    rw [if_pos h0]
    simp only [Sem.run_bind, Sem.run_pure, Result.andThen_ok, hcells, hfill, newRow, run_newObj, hlen, k1.w]
    rfl
  · simp only [if_neg h0] at hcells
    rw [if_neg h0]
    simp only [Sem.run_bind, Sem.run_pure, Result.andThen_ok, hr, hcells, hfill, newRow, run_newObj, hlen, k1.w]
    rfl

end Go.Proofs.YticgilhndadkiaaGreatDoor.R

/- One operation of the code. -/
set_option linter.unusedVariables false
set_option linter.unusedSimpArgs false
namespace Go.Proofs.YticgilhndadkiaaGreatDoor.R
open Go

theorem lands_upon {P : Program} {o : Oper} {a : Act} {next : Act → World → Prop} {Q : Exit → Act → World → Prop} {g : FuncId} {args : Array Value} {w : World} (h : Lands P g args w fun v w' => next (a.put o.dst v) w') : o.upon P a next Q ((callFunc g args).run P w) := by
  unfold Lands at h
  generalize (callFunc g args).run P w = r at h ⊢
  cases r with
  | ok n w' =>
    cases n with
    | value v => exact h
    | enter f as =>
      rw [Oper.upon_enter]
      refine Calls.mono h ?_
      intro e w'' he
      cases e with
      | returned v => exact he
      | _ => exact he.elim
    | row row as => rw [Oper.upon_row]; exact h
    | _ => exact h.elim
  | _ => exact h.elim

theorem lands_mono {P : Program} {g : FuncId} {args : Array Value} {w : World} {R R' : Value → World → Prop} (h : Lands P g args w R) (hr : ∀ v w', R v w' → R' v w') : Lands P g args w R' := by
  unfold Lands at h ⊢
  generalize (callFunc g args).run P w = r at h ⊢
  cases r with
  | ok n w' =>
    cases n with
    | value v => exact hr _ _ h
    | enter f as =>
      refine Calls.mono h ?_
      intro e w'' he
      cases e with
      | returned v => exact hr _ _ he
      | _ => exact he.elim
    | row row as => exact Rows.mono h fun v w' => hr v w'
    | _ => exact h.elim
  | _ => exact h.elim

theorem run_callOp {P : Program} {w : World} {a : Act} {o : Oper} {c : Call} {f : Operand} (ho : o.op = .call c) (hc : c.callee = .value f) {g : FuncId} {cs : Array Value} (hf : a.eval f = .func (.func g) #[] cs) :
    (execOp a.eval o).run P w = (callFunc g ((c.args.toList.map a.eval).toArray ++ cs)).run P w := by
  have hargs : c.args.map a.eval = (c.args.toList.map a.eval).toArray := by apply Array.ext'; simp
  unfold execOp
  simp only [ho, resolve, hc, hf, Deferred.ofValue, Sem.run_bind, Sem.run_pure, Result.andThen_ok, invoke, hargs]
  simp

theorem backC_id (lent : List (Nat × Nat)) (k j : Nat) (c : CV) : backC [] lent false k j c = c := by cases c <;> simp [backC]
theorem mapAll_id {g : Nat → CV → CV} (h : ∀ j c, g j c = c) : ∀ (j : Nat) (l : List CV), mapAll g j l = l
  | _, [] => rfl
  | j, c :: l => by simp [mapAll, h, mapAll_id h]
theorem backC_nil (any : Bool) (k j : Nat) (c : CV) : backC [] [] any k j c = c := by cases c <;> simp [backC]
theorem back_id (lent : List (Nat × Nat)) (σ : St) : back [] lent false σ = σ := by
  apply List.ext_getElem?
  intro k
  unfold back
  rw [mapSt_get]
  cases σ[k]? with
  | none => rfl
  | some x =>
    simp only [Option.map_some, Nat.zero_add]
    congr 1
    cases x with
    | c sh l => simp only [SV.mapC]; rw [mapAll_id fun j c => backC_id lent k j c]
    | ep s o kd fl es i f row => simp [SV.mapC, backEp]
    | _ => rfl

theorem back_nil (any : Bool) (σ : St) : back [] [] any σ = σ := by
  apply List.ext_getElem?
  intro k
  unfold back
  rw [mapSt_get]
  cases σ[k]? with
  | none => rfl
  | some x =>
    simp only [Option.map_some, Nat.zero_add]
    congr 1
    cases x with
    | c sh l => simp only [SV.mapC]; rw [mapAll_id (fun j c => backC_nil any k j c)]
    | ep s o kd fl es i f row => simp [SV.mapC, backEp]
    | _ => rfl
theorem back_none_or (lent : List (Nat × Nat)) (any : Bool) (σ : St) (h : (any && !lent.isEmpty) = false) : back [] lent any σ = σ := by
  cases any with
  | false => exact back_id lent σ
  | true =>
    have : lent = [] := by simpa using h
    rw [this]; exact back_nil true σ

/-- A call that only answers. -/
theorem pure_call {P : Program} {E : Env} {call : CallF} (hcall : CallOk P call) {X : Ctx} {a : Act} {gv : List Value} {σ : St} (hg : Good X (All a gv) σ NoE) {N : Nat} (hN : N = a.tmps.size) {d : Nat} (hd : ∀ b p base tip, X.own b ≠ some (d, p, base, tip))
    {o : Oper} {sv : SV} (h : pureOp E call N o σ = some sv) {c : Call} {f : Operand} (ho : o.op = .call c) (hc : c.callee = .value f) :
    ∃ (g : FuncId) (args : Array Value), (execOp a.eval o).run P X.w = (callFunc g args).run P X.w ∧ Lands P g args X.w fun v w' => ∃ X', X'.w = w' ∧ PureRes X X' d v sv := by
  unfold pureOp at h
  simp only [ho, hc] at h
  split at h
  case h_2 => simp at h
  rename_i g hf
  split at h
  · simp at h
  split at h
  case isFalse => simp at h
  rename_i hgh
  obtain ⟨q, hq, h⟩ := some_bind h
  obtain ⟨r, hr, h⟩ := some_bind h
  split at h
  case isFalse => simp at h
  rename_i hcond
  injection h with h
  have hev : ∀ x, OSV X (a.eval x) (opd E.T N o.type σ x) := fun x => opd_sv hg hN x
  have hfv := hev f
  rw [hf] at hfv
  have hgs : (c.args.toList.map (opd E.T N o.type σ)).flatMap ghostsOf ++ [] = [] := by simpa using hgh
  have hin : callIn call σ g [] [] q = some (σ, sv) := by
    unfold callIn
    simp only [boxesAt, Option.bind_some, List.all_nil, List.contains_nil, Bool.not_false, true_and]
    rw [if_pos (by simp)]
    simp only [List.length_nil, Nat.sub_self, List.range'_zero, List.map_nil, List.append_nil, hr, Option.bind_some]
    rw [if_pos ⟨hcond.1, hcond.2.2.1, hcond.2.2.2, by rw [List.length_eq_zero_iff.1 hcond.1]; rfl⟩]
    rw [List.length_eq_zero_iff.1 hcond.1]
    simp only [List.any_nil, Bool.or_false, List.map_nil, putBoxes, back_none_or _ _ _ hcond.2.1, h]
  obtain ⟨cs, e1, hL⟩ := callIn_ok hcall hg (gs := []) (caps := []) rfl (osvs_map (l := c.args.toList) (f := a.eval) fun x _ => hev x) hq hgs hfv (d := some d) (fun d' e => by injection e with e; subst e; exact hd) (fun d' e => rfl) hin
  refine ⟨g, _, run_callOp ho hc e1, lands_mono hL ?_⟩
  rintro v w' ⟨X', hw, G, hgood, hs, hm, hres⟩
  obtain ⟨hmono, hnew⟩ := hm rfl fun r' hr' => by
    have := hr.symm.trans hr'
    injection this with this
    rw [← this]; exact hcond.2.1
  obtain ⟨h1, h2, h3⟩ := hres d rfl
  exact ⟨X', hw, G, hmono, hgood.inv, fun b t hb => (hnew b t hb).imp id fun e => by injection e with e; exact e.symm, h1, fun b p base tip e => .inr (h2 b p base tip e), fun b base tip e => absurd e (h3 b base tip)⟩

theorem isCall_op {o : Oper} (h : isCall o = true) : ∃ c f, o.op = .call c ∧ c.callee = .value f := by
  unfold isCall at h
  split at h
  · rename_i c hc
    split at h
    · rename_i f hf
      exact ⟨c, f, hc, hf⟩
    · simp at h
  · simp at h

theorem settle_shape : ∀ {l : List CV} {σ σ' : St}, settle l σ = some σ' → ∀ (d : Nat) (sh : Shape), (∃ m, σ'[d]? = some (.c sh m)) ↔ ∃ m, σ[d]? = some (.c sh m)
  | [], σ, σ', h, d, sh => by simp only [settle] at h; injection h with h; subst h; exact Iff.rfl
  | c :: l, σ, σ', h, d, sh => by
    cases c with
    | br s o kd lo f es rows =>
      simp only [settle] at h
      split at h
      · exact (settle_shape h d sh).trans (mapSt_shape _ _ _ _ _)
      · exact settle_shape h d sh
    | _ => simp only [settle] at h; exact settle_shape h d sh
theorem settles_shape : ∀ {gs : List Nat} {σ σ' : St}, settles gs σ = some σ' → ∀ (d : Nat) (sh : Shape), (∃ m, σ'[d]? = some (.c sh m)) ↔ ∃ m, σ[d]? = some (.c sh m)
  | [], σ, σ', h, d, sh => by simp only [settles] at h; injection h with h; subst h; exact Iff.rfl
  | s :: l, σ, σ', h, d, sh => by
    simp only [settles] at h
    obtain ⟨σ1, h1, h⟩ := some_bind h
    unfold settleBox at h1
    obtain ⟨b, h2, h1⟩ := some_bind h1
    exact (settles_shape h d sh).trans (settle_shape h1 d sh)

/-- A call with an effect. -/
theorem eff_call {P : Program} {E : Env} (hT : TOk P E.T) {call : CallF} (hcall : CallOk P call) {X : Ctx} {a : Act} {gv : List Value} {σ σ' : St} (hg : Good X (All a gv) σ NoE) {N : Nat} (hN : N = a.tmps.size) {d : Nat} (hb : Bare X σ d) (hd : d < σ.length) {ty : TypeId} {f : Operand} {xs : List Operand} {sv : SV}
    (h : callSt E call N ty σ f xs = some (σ', sv)) : ∃ (g : FuncId) (cs : Array Value), a.eval f = .func (.func g) #[] cs ∧ Lands P g ((xs.map a.eval).toArray ++ cs) X.w fun v w' => ∃ X', X'.w = w' ∧ Eff X X' (All a gv) σ' d v sv := by
  unfold callSt at h
  split at h
  case h_2 => simp at h
  rename_i g caps hf
  split at h
  · rename_i ho hso
    split at h
    case isFalse => simp at h
    rename_i hcap
    subst hcap
    have hfv := opd_sv hg hN (T := E.T) (ty := ty) f
    rw [hf] at hfv
    have hfv0 : ∃ cs : Array Value, a.eval f = .func (.func g) #[] cs ∧ cs.size = 0 := by
      have h0 := hfv 0
      generalize a.eval f = v at h0
      cases h0 with
      | fn _ _ cs hcs _ => exact ⟨cs, rfl, hcs⟩
    obtain ⟨cs, e1, hcs⟩ := hfv0
    · have : cs = #[] := Array.eq_empty_of_size_eq_zero hcs
      subst this
      refine ⟨g, #[], e1, ?_⟩
      have hL := hT.so g ho hso X (All a gv) σ σ' (xs.map a.eval) (xs.map (opd E.T N ty σ)) sv d hg (by simp) (fun i v x h1 h2 k => by
        rw [List.getElem?_map] at h1 h2
        cases hx : xs[i]? with
        | none => simp [hx] at h1
        | some y =>
          simp [hx] at h1 h2
          subst h1; subst h2
          exact opd_sv hg hN y k) h hd hb.no hb.2.2.1 hb.2.2.2
      rw [Array.append_empty]
      exact lands_mono hL fun v w' ⟨X', hw, G, hgood⟩ => ⟨X', hw, G, hgood⟩
  simp only at h
  split at h
  case isFalse => simp at h
  rename_i hn
  obtain ⟨σ1, h1, h⟩ := some_bind h
  split at h
  case h_2 => simp at h
  rename_i g' caps' hf'
  split at h
  case isFalse => simp at h
  rename_i hcond
  obtain ⟨rfl, hgs⟩ := hcond
  obtain ⟨q, hq, h⟩ := some_bind h
  obtain ⟨X1, k1⟩ := settles_good (All a gv) hg h1
  have hb1 := kept_bare hb k1 (settles_shape h1 d)
  have hev : ∀ x, OSV X1 (a.eval x) (opd E.T N ty σ1 x) := fun x => opd_sv k1.good hN x
  have hfv := hev f
  rw [hf'] at hfv
  have hdg : (List.flatMap (fun x => ghostsOf (opd E.T N ty σ x)) xs ++ caps).contains d = false := by
    have h' := h
    unfold callIn at h'
    obtain ⟨bs, hbs, _⟩ := some_bind h'
    cases hc : (List.flatMap (fun x => ghostsOf (opd E.T N ty σ x)) xs ++ caps).contains d with
    | false => rfl
    | true =>
      obtain ⟨p, hp⟩ := posOf_some hc
      have hp := posOf_get hp
      obtain ⟨e1, e2⟩ := boxesAt_get hbs
      have hlt : p < bs.length := by rw [e1]; exact (List.getElem?_eq_some_iff.1 hp).1
      exact absurd (e2 p d _ hp (List.getElem?_eq_getElem hlt)) (hb1.2.2.2 _)
  obtain ⟨cs, e1, hL⟩ := callIn_ok hcall k1.good hn (osvs_map (l := xs) (f := a.eval) fun x _ => hev x) hq (by rw [List.flatMap_map]; exact hgs) hfv (d := some d) (fun d' e => by injection e with e; subst e; exact hb1.no) (fun d' e => by injection e with e; subst e; exact hdg) h
  rw [k1.w] at hL
  refine ⟨g', cs, e1, lands_mono hL ?_⟩
  rintro v w' ⟨X', hw, G, hgood, hs, _, hres⟩
  obtain ⟨r1, r2, r3⟩ := hres d rfl
  refine ⟨X', hw, k1.goes.trans G, good_set hgood (fun a b e => by injection e with e; exact e.symm) (.refl X') hgood.inv (by rw [hs, k1.size]; exact hd) (fun b t h => .inl h) r3 r1 r2 fun b base tip e => absurd e (r3 b base tip)⟩

/-- A step with an effect. -/
theorem eff_step {P : Program} {E : Env} (hT : TOk P E.T) {call : CallF} (hcall : CallOk P call) {X : Ctx} {a : Act} {gv : List Value} {σ σ' : St} (hg : Good X (All a gv) σ NoE) {N : Nat} (hN : N = a.tmps.size) {d : Nat} (hb : Bare X σ d) (hd : d < N) {o : Oper} (ho : o.dst = some d) {sv : SV}
    (h : effOp E call N o d σ = some (σ', sv)) {next : Act → World → Prop} {Q : Exit → Act → World → Prop} (hnext : ∀ v X', Eff X X' (All a gv) σ' d v sv → next (a.put o.dst v) X'.w) : o.upon P a next Q ((execOp a.eval o).run P X.w) := by
  have hev : ∀ x, OSV X (a.eval x) (opd E.T N o.type σ x) := fun x => opd_sv hg hN x
  have hdl : d < σ.length := by
    rw [← hg.frame.1]; unfold All; rw [List.length_append, Array.length_toList]; omega
  have hval : ∀ {s : Sem Value} {v : Value} {X' : Ctx}, (execOp a.eval o) = (do pure (Next.value (← s)) : Sem Next) → s.run P X.w = .ok v X'.w → Eff X X' (All a gv) σ' d v sv → o.upon P a next Q ((execOp a.eval o).run P X.w) := fun {s v X'} e hr hE => by
    rw [e, val_run hr]
    exact hnext v X' hE
  unfold effOp at h
  cases hop : o.op with
  | assign x =>
    simp only [hop] at h
    split at h
    · rename_i l hx
      obtain ⟨⟨σ1, l'⟩, h1, h2⟩ := some_map h
      injection h2 with h2 h3; subst h2; subst h3
      have hv := hev x
      rw [hx] at hv
      obtain ⟨X', hw, hE⟩ := eff_assign hg hb hdl hv (by simp) h1
      have : (execOp a.eval o).run P X.w = .ok (.value (a.eval x)) X'.w := by rw [hw]; unfold execOp; simp only [hop]; rfl
      rw [this]
      exact hnext _ X' hE
    · rename_i l hx
      obtain ⟨⟨σ1, l'⟩, h1, h2⟩ := some_map h
      injection h2 with h2 h3; subst h2; subst h3
      have hv := hev x
      rw [hx] at hv
      obtain ⟨X', hw, hE⟩ := eff_assign hg hb hdl hv (by simp) h1
      have : (execOp a.eval o).run P X.w = .ok (.value (a.eval x)) X'.w := by rw [hw]; unfold execOp; simp only [hop]; rfl
      rw [this]
      exact hnext _ X' hE
    · simp at h
  | alloc t =>
    simp only [hop] at h
    obtain ⟨z, h1, h2⟩ := some_map h
    injection h2 with h2 h3; subst h2; subst h3
    obtain ⟨v, X', hr, hE⟩ := eff_alloc (P := P) hT hg hb hdl h1
    exact hval (by unfold execOp; simp only [hop]) hr hE
  | box t x =>
    simp only [hop] at h
    obtain ⟨n, h1, h⟩ := some_bind h
    obtain ⟨cs, h2, h⟩ := some_bind h
    split at h
    case isFalse => simp at h
    obtain ⟨⟨σ1, l'⟩, h3, h4⟩ := some_map h
    injection h4 with h4 h5; subst h4; subst h5
    obtain ⟨v, X', hr, hE⟩ := eff_newbox (P := P) (t := t) hg hb hdl (hev x) h2 h3
    exact hval (by unfold execOp; simp only [hop]) hr hE
  | buildSlice t n ps =>
    simp only [hop] at h
    obtain ⟨e, h1, h⟩ := some_bind h
    obtain ⟨es, h2, h⟩ := some_bind h
    obtain ⟨z, h3, h⟩ := some_bind h
    split at h
    case isFalse => simp at h
    rename_i hcond
    obtain ⟨⟨σ1, f, rows⟩, h4, h5⟩ := some_map h
    injection h5 with h5 h6; subst h5; subst h6
    have hp : OParts X σ (ps.toList.map fun p => (p.1, a.eval p.2)) (ps.toList.map fun p => (p.1, opd E.T N o.type σ p.2)) := by
      generalize ps.toList = l
      induction l with
      | nil => exact .nil
      | cons p l ih => exact .cons _ _ _ _ _ (fun cs e => (cells_flat (hev p.2) e).1.ocells) ih
    obtain ⟨v, X', hr, hE⟩ := rowlit_eff (P := P) hT hg hb hdl h1 h2 h3 hcond.1 hcond.2 hp h4
    refine hval ?_ hr hE
    unfold execOp
    simp only [hop]
    have : (ps.map fun (i, x) => (i, a.eval x)) = (ps.toList.map fun p => (p.1, a.eval p.2)).toArray := by
      apply Array.ext'; simp
    rw [this]
  | call c =>
    simp only [hop] at h
    split at h
    · rename_i hcal
      split at h
      · rename_i x y t u hxs hts
        split at h
        case isFalse => simp at h
        rename_i hu
        have hargs : OSVs X (c.args.toList.map a.eval) (c.args.toList.map (opd E.T N o.type σ)) := osvs_map fun x _ => hev x
        rw [hxs] at hargs
        have hca : c.args.map a.eval = (c.args.toList.map a.eval).toArray := by apply Array.ext'; simp
        generalize c.args.toList.map a.eval = av at hargs hca
        cases hargs with
        | cons xv _ _ _ hx ht =>
          cases ht with
          | cons yv _ _ _ hy ht =>
            cases ht
            obtain ⟨v, X', hr, hE⟩ := append_eff (P := P) (ty := o.type) hT hg hb hdl hx hy hu h
            have hat : c.argTypes = #[t, u] := by apply Array.ext'; exact hts
            have : (execOp a.eval o).run P X.w = .ok (.value v) X'.w := by
              unfold execOp
              simp only [hop, resolve, hcal, hca, hat, Sem.run_bind, Sem.run_pure, Result.andThen_ok, invoke, builtin]
              rw [hr]
              rfl
            rw [this]
            exact hnext v X' hE
      · simp at h
    · rename_i f hcal
      obtain ⟨g, cs, e1, hL⟩ := eff_call hT hcall hg hN hb hdl h
      rw [run_callOp hop hcal e1]
      refine lands_upon (lands_mono hL ?_)
      rintro v w' ⟨X', rfl, hE⟩
      exact hnext v X' hE
    · simp at h
  | _ => simp [hop] at h

end Go.Proofs.YticgilhndadkiaaGreatDoor.R

/- Operations one after the other. -/
set_option linter.unusedVariables false
set_option linter.unusedSimpArgs false
namespace Go.Proofs.YticgilhndadkiaaGreatDoor.R
open Go

theorem skip_run {P : Program} {w w' : World} {s : Sem Unit} (h : s.run P w = .ok () w') : (do s; pure Next.skip : Sem Next).run P w = .ok .skip w' := by
  simp [h]

/-- A store. -/
theorem store_ok {P : Program} {T : Tys} (hT : TOk P T) {X : Ctx} {a : Act} {gv : List Value} {σ σ' : St} (hg : Good X (All a gv) σ NoE) {N : Nat} (hN : N = a.tmps.size) {oty t : TypeId} {p x : Operand} (h : storeSt T N oty σ t p x = some σ') :
    ∃ X', (Instr.storeAt t (a.eval p) (a.eval x)).run P X.w = .ok () X'.w ∧ Goes X X' ∧ Good X' (All a gv) σ' NoE := by
  unfold storeSt at h
  obtain ⟨n, hn, h⟩ := some_bind h
  split at h
  · rename_i s o hp
    simp only at h
    split at h
    · rename_i s' o' cs hp' hx
      split at h
      case isFalse => simp at h
      rename_i hcond
      obtain ⟨rfl, rfl, hlen⟩ := hcond
      obtain ⟨⟨σ2, l'⟩, h1, h⟩ := some_bind h
      simp only at h
      split at h
      · rename_i l hl
        split at h
        case isFalse => simp at h
        rename_i hfit
        injection h with h; subst h
        exact store_bp hT hg hN hn hp' hx hlen h1 hl hfit
      · simp at h
    · simp at h
  · rename_i s o kd fl es i f row0 hp
    split at h
    case isFalse => simp at h
    obtain ⟨cs, hx, h⟩ := some_bind h
    split at h
    · simp at h
    rename_i hlen
    obtain ⟨⟨σ1, f', ps⟩, h1, h⟩ := some_bind h
    simp only at h
    split at h
    · rename_i s' o' kd' fl' es' i' f2 row' f0 es'' rows hp' hcell
      split at h
      case isFalse => simp at h
      rename_i hcond
      obtain ⟨rfl, rfl, rfl, rfl, rfl, hkd, rfl⟩ := hcond
      obtain ⟨row, hrow, h⟩ := some_bind h
      split at h
      case isFalse => simp at h
      rename_i hfit
      injection h with h; subst h
      exact store_ep hT hg hN hn hx (by simpa using hlen) h1 hp' hkd hcell hrow hfit
    · simp at h
  · simp at h

theorem give_good {X : Ctx} {vs : List Value} {σ : St} (hg : Good X vs σ NoE) (d : Nat) (op : Op) : ∃ X', X'.w = X.w ∧ Goes X X' ∧ Good X' vs (giveSt d op σ) NoE ∧ (giveSt d op σ).length = σ.length := by
  unfold giveSt
  split
  case h_2 => exact ⟨X, rfl, .refl X, hg, rfl⟩
  rename_i x
  unfold giveOf
  split
  case h_2 => exact ⟨X, rfl, .refl X, hg, rfl⟩
  rename_i s lo f es rows hx
  split
  case isFalse => exact ⟨X, rfl, .refl X, hg, rfl⟩
  rename_i hc
  obtain ⟨rfl, hc⟩ := hc
  have hxs : σ[x]? = some (.c .one [.br s 0 1 lo f es rows]) := by
    rw [List.getD_eq_getElem?_getD] at hx
    cases e : σ[x]? with
    | none => rw [e] at hx; simp at hx
    | some y => rw [e] at hx; simp at hx; rw [hx]
  have hxl : x < σ.length := (List.getElem?_eq_some_iff.1 hxs).1
  have hxv : x < vs.length := by rw [hg.frame.1]; exact hxl
  have hv : vs[x]? = some vs[x] := List.getElem?_eq_getElem hxv
  have hrel := hg.frame.2 x _ _ hv hxs
  generalize vs[x] = v at hv hrel
  have hflat : (∀ cs, v ≠ .agg cs) ∧ ∀ k j, CVRel X k j v (.br s 0 1 lo f es rows) := by
    cases hrel with
    | c _ _ ws _ hf hcr =>
      cases hf with
      | one _ hn =>
        cases hcr with
        | cons _ _ _ _ _ h1 _ =>
          refine ⟨hn, fun k j => ?_⟩
          cases h1 with
          | br0 _ _ _ _ _ _ a => exact .br0 s 0 1 lo f es a
          | br _ _ _ _ _ _ _ _ blk base tip cap c elem fr h => exact .br s 0 1 lo f es rows v blk base tip cap c elem fr h
  have hfree : Free X x 0 := fun b base tip e => by
    have := (hg.tags.cell _ _ _ _ _ e).resolve_left id
    rw [show cellAt σ x 0 = .br s 0 1 lo f es rows by unfold cellAt; rw [List.getD_eq_getElem?_getD, hxs]; rfl] at this
    simp [CV.isOw] at this
  obtain ⟨X', p⟩ := persist_good (s' := x) (o' := 0) (c := .br s 0 1 lo f es rows) (c' := .ow f es rows) (σ' := off s 0 σ) hg (.inl hflat.2) hfree (by simp [persist, hc])
  have hlen : (off s 0 σ).length = σ.length := by
    have h1 := p.good.frame.1
    have h2 := hg.frame.1
    omega
  have hxo : (off s 0 σ)[x]? = some (.c .one [.dead]) := by
    unfold off
    rw [mapSt_get, hxs]
    simp [SV.mapC, mapAll, offC]
  have hset : vs.set x v = vs := by
    apply List.ext_getElem?
    intro i
    by_cases h : i = x
    · subst h; rw [List.getElem?_set_self hxv, hv]
    · rw [List.getElem?_set_ne (Ne.symm h)]
  refine ⟨X', p.laid.w, p.laid.goes, ?_, by rw [List.length_set]; exact hlen⟩
  have hnb : ∀ b base tip, X'.own b ≠ some (x, 0, base, tip) := fun b base tip e => by
    obtain ⟨l, hl⟩ := p.good.tags.box _ _ _ _ e
    rw [hxo] at hl
    simp at hl
  have := good_set (sv := .c .one [.ow f es rows]) (v := v) (d := x) p.good (fun a b e => by rcases e with e | e; exact e.elim; exact e.1) (.refl X') p.good.inv (by rw [hlen]; exact hxl) (fun b t h => .inl h) hnb
    (.c .one v [v] _ (.one v hflat.1) (.cons 0 v _ [] [] p.cv (.nil 1))) ?_ ?_
  · rw [hset] at this; exact this
  · intro b q base tip e
    cases q with
    | zero => rfl
    | succ q =>
      have := p.good.tags.cell _ _ _ _ _ e
      rcases this with (h | h) | h
      · exact h.elim
      · omega
      · rw [show cellAt (off s 0 σ) x (q + 1) = .dead by unfold cellAt; rw [List.getD_eq_getElem?_getD, hxo]; rfl] at h
        simp [CV.isOw] at h
  · intro b base tip e
    exact absurd e (hnb b base tip)

theorem step_ok {P : Program} {E : Env} (hT : TOk P E.T) {call : CallF} (hcall : CallOk P call) {X : Ctx} {a : Act} {gv : List Value} {σ σ' : St} (hg : Good X (All a gv) σ NoE) {N : Nat} (hN : N = a.tmps.size) {o : Oper} (h : stepOp E call N o σ = some σ')
    {next : Act → World → Prop} {Q : Exit → Act → World → Prop} (hnext : ∀ a' X', Goes X X' → Good X' (All a' gv) σ' NoE → a'.tmps.size = N → a'.defers = a.defers → next a' X'.w) : o.wp P a X.w next Q := by
  unfold Oper.wp
  unfold stepOp at h
  split at h
  · rename_i hdst
    split at h
    · rename_i t p x hop
      obtain ⟨X', hr, G, hgood⟩ := store_ok (P := P) hT hg hN h
      have : (execOp a.eval o).run P X.w = .ok .skip X'.w := by
        unfold execOp
        simp only [hop]
        exact skip_run hr
      rw [this, Oper.upon_skip, hdst]
      exact hnext a X' G hgood hN.symm rfl
    · simp at h
  · rename_i d hdst
    split at h
    case isFalse => simp at h
    rename_i hd
    obtain ⟨X0, hw0, G0, hg0, hl0⟩ := give_good hg d o.op
    generalize giveSt d o.op σ = σ at *
    have hlen0 : N ≤ σ.length := by
      rw [← hg0.frame.1]; unfold All; rw [List.length_append, Array.length_toList]; omega
    rw [← hw0]
    obtain ⟨X1, C⟩ := clear_good hg0 d
    have hb : Bare X1 (clear d σ) d := ⟨C.free, C.noBox, C.noOw, C.noBx⟩
    have hlen : N ≤ (clear d σ).length := by
      rw [C.size]; exact hlen0
    have hdl : d < (clear d σ).length := Nat.lt_of_lt_of_le hd hlen
    have hfin : ∀ v X' σ2 sv, Eff X1 X' (All a gv) σ2 d v sv → σ' = σ2.set d sv → next (a.put o.dst v) X'.w := fun v X' σ2 sv hE e => by
      subst e
      refine hnext _ X' ((G0.trans C.goes).trans hE.goes) ?_ (by rw [put_size]; exact hN.symm) (put_defers a o.dst v)
      rw [hdst, all_put (hN ▸ hd)]
      exact hE.good
    rw [← C.w]
    simp only at h
    split at h
    · rename_i sv hp
      injection h with h
      cases hc : isCall o with
      | false =>
        obtain ⟨v, X', hr, q⟩ := pure_run (P := P) hT C.good hN (C.free 0) hp hc
        rw [hr, Oper.upon_value]
        exact hfin v X' _ sv (eff_pure C.good hb hdl q) h.symm
      | true =>
        obtain ⟨c, f, ho, hcal⟩ := isCall_op hc
        obtain ⟨g, args, e1, hL⟩ := pure_call hcall C.good hN hb.no hp ho hcal
        rw [e1]
        refine lands_upon (lands_mono hL ?_)
        rintro v w' ⟨X', rfl, q⟩
        exact hfin v X' _ sv (eff_pure C.good hb hdl q) h.symm
    · obtain ⟨⟨σ2, sv⟩, h1, h2⟩ := some_map h
      exact eff_step hT hcall C.good hN hb hd hdst h1 fun v X' hE => hfin v X' _ sv hE h2.symm

theorem skip_rel {X : Ctx} {k : Nat} : SVRel X k undef skipSV :=
  .c _ _ _ _ (Flat.tup [] #[] [] rfl rfl fun i v a n f h => by simp at h) (.nil 0)
theorem skip_pv : skipSV.bool? = none := rfl
/-- An operation that isn't carried out. -/
theorem skip_ok {X : Ctx} {a : Act} {gv : List Value} {σ : St} (hg : Good X (All a gv) σ NoE) {N : Nat} (hN : N = a.tmps.size) {dst : Option Tmp} (hd : dstOk N dst = true) :
    ∃ X', X'.w = X.w ∧ Goes X X' ∧ Good X' (All (a.put dst undef) gv) (putSt dst skipSV (clearSt dst σ)) NoE := by
  cases dst with
  | none => exact ⟨X, rfl, .refl X, hg⟩
  | some d =>
    have hd : d < N := by simpa [dstOk] using hd
    obtain ⟨X1, C⟩ := clear_good hg d
    have hlen : N ≤ (clear d σ).length := by
      rw [C.size, ← hg.frame.1]; unfold All; rw [List.length_append, Array.length_toList]; omega
    have hdl : d < (clear d σ).length := Nat.lt_of_lt_of_le hd hlen
    have hE := eff_pure C.good ⟨C.free, C.noBox, C.noOw, C.noBx⟩ hdl (PureRes.same C.good.inv (v := undef) (sv := skipSV) fun k => skip_rel)
    refine ⟨X1, C.w, C.goes, ?_⟩
    rw [all_put (hN ▸ hd)]
    exact hE.good

theorem wanted_ok {X : Ctx} {a : Act} {gv : List Value} {σ : St} (hg : Good X (All a gv) σ NoE) {N : Nat} (hN : N = a.tmps.size) {ops : Array Oper} {o : Oper} {b : Bool} (h : wantedSt N ops o σ = some b) : Region.wanted o (yielded ops a.tmps) = b := by
  unfold wantedSt at h
  split at h
  · rename_i hgd
    injection h with h; subst h
    simp [Region.wanted, hgd]
  · rename_i j want hgd
    obtain ⟨t, ht, h⟩ := some_bind h
    split at h
    case isFalse => simp at h
    rename_i hlt
    obtain ⟨ox, hox, h⟩ := some_map h
    have hoj : ∃ oj, ops[j]? = some oj ∧ oj.dst = some t := by
      cases hoj : ops[j]? with
      | none => simp [hoj] at ht
      | some oj => exact ⟨oj, rfl, by simpa [hoj] using ht⟩
    obtain ⟨oj, hoj, hdj⟩ := hoj
    have h1 : t < a.tmps.size := hN ▸ hlt
    have h2 : a.tmps[t]? = some a.tmps[t] := Array.getElem?_eq_getElem h1
    unfold gval at hox
    split at hox
    · rename_i hsk
      injection hox with hox; subst hox
      have hlen : t < σ.length := by
        have e := hg.frame.1
        unfold All at e
        rw [List.length_append, Array.length_toList] at e
        exact Nat.lt_of_lt_of_le h1 (e ▸ Nat.le_add_right _ _)
      have hs : σ[t]? = some (.c (.tup []) []) := by
        rw [List.getD_eq_getElem?_getD, List.getElem?_eq_getElem hlen] at hsk
        simp only [Option.getD_some] at hsk
        rw [List.getElem?_eq_getElem hlen, hsk]
      have hv : (All a gv)[t]? = some a.tmps[t] := by
        unfold All
        rw [List.getElem?_append_left (by rw [Array.length_toList]; exact h1), Array.getElem?_toList, h2]
      have hr := hg.frame.2 t _ _ hv hs
      have he : a.tmps[t] = undef := by
        generalize a.tmps[t] = v at hr
        cases hr with
        | c _ _ vs _ hfl _ =>
          cases hfl with
          | tup _ ws fs h3 h4 _ =>
            have : ws = #[] := by simpa using h4
            subst this; rfl
      rw [← h]
      simp only [Region.wanted, hgd, yielded, hoj, Option.bind_some, hdj, h2, he]
      rfl
    obtain ⟨x, hx, hox⟩ := some_map hox
    subst hox
    have hop := opd_sv (T := ⟨fun _ => none, fun _ => none, fun _ => none, fun _ => none, fun _ => none, fun _ _ => none, fun _ _ => none, fun _ => none, fun _ => false, fun _ => false, fun _ => false, fun _ => none⟩) (ty := 0) hg hN (.tmp t)
    have hv : a.eval (.tmp t) = .bool x := by
      refine bool_sv hop ?_
      simp only [opd, if_pos hlt]
      have : ∀ (sv : SV) k, sv.bool? = some x → (sv.view k).bool? = some x := fun sv k h => by
        unfold SV.bool? SV.pv? SV.one? at h ⊢
        cases sv with
        | c sh l =>
          cases sh with
          | one =>
            cases l with
            | nil => simp at h
            | cons c l =>
              cases l with
              | cons _ _ => simp at h
              | nil =>
                cases c with
                | sh f p => simpa [SV.view, mapAll, CV.view] using h
                | ow f es rows => simp [CV.p?] at h
                | br => simp [CV.p?] at h
                | dead => simp [CV.p?] at h
          | _ => simp at h
        | _ => simp at h
      exact this _ t hx
    have he : a.tmps[t]? = some (.bool x) := by
      simp only [Act.eval] at hv
      rw [h2]
      have h3 : a.tmps.getD t undef = a.tmps[t] := by simp [h1]
      rw [← hv, h3]
    rw [← h]
    simp only [Region.wanted, hgd, yielded, hoj, Option.bind_some, hdj, he]
    try (cases x <;> cases want <;> rfl)

theorem runOps_ok {P : Program} {E : Env} (hT : TOk P E.T) {call : CallF} (hcall : CallOk P call) {gv : List Value} {N : Nat} {ops : Array Oper} {Q : Exit → Act → World → Prop} : ∀ {l : List Nat} {X : Ctx} {a : Act} {σ σ' : St}, Good X (All a gv) σ NoE → N = a.tmps.size → runOps E call N ops l σ = some σ' →
    (∀ a' X', Goes X X' → Good X' (All a' gv) σ' NoE → a'.tmps.size = N → a'.defers = a.defers → Q .normal a' X'.w) → wpOps P ops Q l a X.w
  | [], X, a, σ, σ', hg, hN, h, hQ => by
    simp only [runOps] at h
    injection h with h; subst h
    exact hQ a X (.refl X) hg hN.symm rfl
  | i :: l, X, a, σ, σ', hg, hN, h, hQ => by
    simp only [runOps] at h
    simp only [wpOps]
    split at h
    · simp at h
    · rename_i o ho
      simp only [ho]
      obtain ⟨w, hw, h0⟩ := some_bind h
      obtain ⟨σ1, h1, h2⟩ := some_bind h0
      clear h h0
      rw [wanted_ok hg hN hw]
      cases w with
      | true =>
        simp only [if_true] at h1 ⊢
        refine .inl (step_ok hT hcall hg hN h1 fun a' X' G hg' hs hd => ?_)
        exact runOps_ok hT hcall hg' hs.symm h2 fun a'' X'' G' hg'' hs' hd' => hQ a'' X'' (G.trans G') hg'' hs' (hd'.trans hd)
      | false =>
        simp only [Bool.false_eq_true, if_false] at h1 ⊢
        split at h1
        case isFalse => simp at h1
        rename_i hdok
        injection h1 with h1; subst h1
        obtain ⟨X', hw', G, hg'⟩ := skip_ok hg hN hdok
        rw [← hw']
        exact runOps_ok hT hcall hg' (by rw [put_size]; exact hN) h2 fun a'' X'' G' hg'' hs' hd' => hQ a'' X'' (G.trans G') hg'' hs' (hd'.trans (put_defers a o.dst undef))

end Go.Proofs.YticgilhndadkiaaGreatDoor.R

/- Operations in whatever order: the trace of the operations one by one. -/
set_option linter.unusedVariables false
set_option linter.unusedSimpArgs false
namespace Go.Proofs.YticgilhndadkiaaGreatDoor.R
open Go

theorem opd_congr {T : Tys} {N : Nat} {ty : TypeId} {σ σ' : St} {x : Operand} (h : ∀ t, x = .tmp t → σ.getD t .undef = σ'.getD t .undef) : opd T N ty σ x = opd T N ty σ' x := by
  cases x with
  | tmp t => simp only [opd, h t rfl]
  | _ => rfl

theorem loadSV_congr {T : Tys} {σ σ' : St} {t : TypeId} {x v : SV} (hb : ∀ s o l, x = .bp s o → σ.getD s .undef = .c .box l → σ'.getD s .undef = .c .box l) (h : loadSV T σ t x = some v) : loadSV T σ' t x = some v := by
  unfold loadSV at h ⊢
  obtain ⟨n, h1, h⟩ := some_bind h
  obtain ⟨a, h2, h⟩ := some_bind h
  rw [h1, h2]
  simp only [Option.bind_some]
  split at h
  · simp at h
  · rename_i hc
    rw [if_neg hc]
    simp only at h ⊢
    cases x with
    | bp s o =>
      simp only at h ⊢
      cases e : σ.getD s .undef with
      | c sh l =>
        cases sh with
        | box => rw [e] at h; rw [hb s o l rfl e]; exact h
        | _ => rw [e] at h; simp at h
      | _ => rw [e] at h; simp at h
    | _ => exact h

theorem pureOp_congr {E : Env} {call : CallF} {N : Nat} {o : Oper} {σ σ' : St} (h : ∀ x ∈ o.op.operands, opd E.T N o.type σ x = opd E.T N o.type σ' x) (hb : ∀ x ∈ o.op.operands, ∀ s o' l, opd E.T N o.type σ x = .bp s o' → σ.getD s .undef = .c .box l → σ'.getD s .undef = .c .box l) {v : SV} (hp : pureOp E call N o σ = some v) : pureOp E call N o σ' = some v := by
  unfold pureOp at hp ⊢
  cases hop : o.op with
  | move x => simp only [hop] at hp ⊢; rw [← h x (by simp [hop, Op.operands])]; exact hp
  | assign x => simp only [hop] at hp ⊢; rw [← h x (by simp [hop, Op.operands])]; exact hp
  | pick c a b => simp only [hop] at hp ⊢; rw [← h c (by simp [hop, Op.operands]), ← h a (by simp [hop, Op.operands]), ← h b (by simp [hop, Op.operands])]; exact hp
  | binOp op t x y k => simp only [hop] at hp ⊢; rw [← h x (by simp [hop, Op.operands]), ← h y (by simp [hop, Op.operands])]; exact hp
  | unOp op t x => simp only [hop] at hp ⊢; rw [← h x (by simp [hop, Op.operands])]; exact hp
  | convert s d x => simp only [hop] at hp ⊢; rw [← h x (by simp [hop, Op.operands])]; exact hp
  | fieldAddr t x f => simp only [hop] at hp ⊢; rw [← h x (by simp [hop, Op.operands])]; exact hp
  | indexAddr t x i => simp only [hop] at hp ⊢; rw [← h x (by simp [hop, Op.operands]), ← h i (by simp [hop, Op.operands])]; exact hp
  | index t x i => simp only [hop] at hp ⊢; rw [← h x (by simp [hop, Op.operands]), ← h i (by simp [hop, Op.operands])]; exact hp
  | load t x => simp only [hop] at hp ⊢; rw [← h x (by simp [hop, Op.operands])]; exact loadSV_congr (fun s o' l e => hb x (by simp [hop, Op.operands]) s o' l e) hp
  | extract x i => simp only [hop] at hp ⊢; rw [← h x (by simp [hop, Op.operands])]; exact hp
  | slice t x lo hi mx =>
    simp only [hop] at hp ⊢
    have hx := h x (by simp [hop, Op.operands])
    have hlo : lo.map (opd E.T N o.type σ) = lo.map (opd E.T N o.type σ') := by
      cases lo with
      | none => rfl
      | some y => simp only [Option.map_some]; rw [h y (by simp [hop, Op.operands])]
    have hhi : hi.map (opd E.T N o.type σ) = hi.map (opd E.T N o.type σ') := by
      cases hi with
      | none => rfl
      | some y => simp only [Option.map_some]; rw [h y (by simp [hop, Op.operands])]
    cases mx with
    | none => simp only at hp ⊢; rw [← hx, ← hlo, ← hhi]; exact hp
    | some m => simp at hp
  | nilCheck x => simp only [hop] at hp ⊢; rw [← h x (by simp [hop, Op.operands])]; exact hp
  | build t ps =>
    simp only [hop] at hp ⊢
    have : (ps.toList.map fun p => (p.1, opd E.T N o.type σ p.2)) = ps.toList.map fun p => (p.1, opd E.T N o.type σ' p.2) := List.map_congr_left fun p hm => by
      rw [h p.2 (by simp [hop, Op.operands]; exact ⟨p.1, by simpa using hm⟩)]
    rw [← this]; exact hp
  | makeFunc fn first caps =>
    simp only [hop] at hp ⊢
    have : ∀ l : List Operand, (∀ x ∈ l, x ∈ caps) → (l.mapM fun x => slotOf (opd E.T N o.type σ x)) = (l.mapM fun x => slotOf (opd E.T N o.type σ' x)) := by
      intro l
      induction l with
      | nil => intro _; rfl
      | cons y l ih =>
        intro hl
        simp only [List.mapM_cons]
        rw [h y (by simp only [hop, Op.operands]; exact Array.mem_append.2 (.inr (hl y (by simp)))), ih fun z hz => hl z (by simp [hz])]
    cases fn with
    | func g => simp only at hp ⊢; rw [← this caps.toList fun x hx => by simpa using hx]; exact hp
    | _ => simp at hp
  | makeSlice t n m => simp only [hop] at hp ⊢; rw [← h n (by simp [hop, Op.operands]), ← h m (by simp [hop, Op.operands])]; exact hp
  | buildSlice t n ps =>
    simp only [hop] at hp ⊢
    have : (ps.toList.map fun p => (p.1, opd E.T N o.type σ p.2)) = ps.toList.map fun p => (p.1, opd E.T N o.type σ' p.2) := List.map_congr_left fun p hm => by
      rw [h p.2 (by simp [hop, Op.operands]; exact ⟨p.1, by simpa using hm⟩)]
    rw [← this]; exact hp
  | call c =>
    simp only [hop] at hp ⊢
    have hx : c.args.toList.map (opd E.T N o.type σ) = c.args.toList.map (opd E.T N o.type σ') := List.map_congr_left fun x hm => by
      rw [h x ?_]
      simp only [hop, Op.operands, Call.operands]
      have hm' : x ∈ c.args := by simpa using hm
      cases c.callee <;> simp [hm']
    have hx' : (c.args.toList.map fun x => opd E.T N o.type σ' x) = c.args.toList.map fun x => opd E.T N o.type σ x := hx.symm
    cases hc : c.callee with
    | value f =>
      have hf := h f (by simp [hop, Op.operands, Call.operands, hc])
      simp only [hc] at hp ⊢
      rw [hx', ← hf]; exact hp
    | builtin b =>
      simp only [hc] at hp ⊢
      cases b <;> first
        | (simp only at hp ⊢; rw [hx']; exact hp)
        | simp at hp
    | invoke r m => simp only [hc] at hp; simp at hp
  | _ => simp [hop] at hp

theorem drawOp_congr {E : Env} {call : CallF} {N : Nat} {o : Oper} {σ σ' : St} (h : ∀ x ∈ o.op.operands, opd E.T N o.type σ x = opd E.T N o.type σ' x) (hb : ∀ x ∈ o.op.operands, ∀ s o' l, opd E.T N o.type σ x = .bp s o' → σ.getD s .undef = .c .box l → σ'.getD s .undef = .c .box l) {v : SV} (hp : drawOp E call N o σ = some v) : drawOp E call N o σ' = some v := by
  unfold drawOp at hp ⊢
  split at hp
  · exact hp
  · exact pureOp_congr h hb hp
theorem isAlloc_op {op : Op} (h : isAlloc op = true) : ∃ t, op = .alloc t := by
  cases op <;> simp [isAlloc] at h
  exact ⟨_, rfl⟩
theorem drawOp_pure {E : Env} {call : CallF} {N : Nat} {o : Oper} {σ : St} (h : isAlloc o.op = false) : drawOp E call N o σ = pureOp E call N o σ := by
  unfold drawOp
  split
  · rename_i t e; rw [e] at h; simp [isAlloc] at h
  · rfl

theorem pureOp_notSelect {E : Env} {call : CallF} {N : Nat} {o : Oper} {σ : St} {v : SV} (hp : pureOp E call N o σ = some v) : ∀ cs b, o.op ≠ .select cs b := fun cs b e => by
  unfold pureOp at hp; simp [e] at hp

theorem wantedSt_congr {N : Nat} {ops : Array Oper} {o : Oper} {σ σ' : St} (h : ∀ t, t ∈ (match o.guard with | some (g, _) => ((ops[g]?).bind (·.dst)).toList | none => []) → σ.getD t .undef = σ'.getD t .undef) : wantedSt N ops o σ = wantedSt N ops o σ' := by
  unfold wantedSt
  split
  · rfl
  · rename_i j want hg
    simp only [hg] at h
    cases e : (ops[j]?).bind (·.dst) with
    | none => simp only [e, Option.bind_none]
    | some t =>
      simp only [e, Option.bind_some]
      rw [h t (by simp [e])]

/-- The operations one by one, from k on. -/
structure Trace (E : Env) (call : CallF) (N : Nat) (ops : Array Oper) (k n : Nat) (τ : Nat → St) : Prop where
  step : ∀ i, k ≤ i → i < n → ∃ o w v d, ops[i]? = some o ∧ wantedSt N ops o (τ i) = some w ∧ o.dst = some d ∧ d < N ∧ plain ((τ i).getD d .undef) = true ∧ (w = true → drawOp E call N o (τ i) = some v) ∧ (w = false → v = skipSV) ∧ (isBox v = true → isAlloc o.op = true) ∧ τ (i + 1) = (τ i).set d v

theorem trace_of {E : Env} {call : CallF} {N : Nat} {ops : Array Oper} : ∀ (m k : Nat) {σ σ' : St}, runPure E call N ops (List.range' k m) σ = some σ' → ∃ τ, τ k = σ ∧ τ (k + m) = σ' ∧ Trace E call N ops k (k + m) τ
  | 0, k, σ, σ', h => by
    simp only [List.range'_zero, runPure] at h
    injection h with h; subst h
    exact ⟨fun _ => σ, rfl, rfl, ⟨fun i h1 h2 => by omega⟩⟩
  | m + 1, k, σ, σ', h => by
    simp only [List.range'_succ, runPure] at h
    split at h
    · simp at h
    rename_i o ho
    obtain ⟨w, hw, h1⟩ := some_bind h
    split at h1
    · simp at h1
    rename_i d hd
    split at h1
    case isFalse => simp at h1
    rename_i hc
    obtain ⟨v, hv, h2⟩ := some_bind h1
    split at h2
    · simp at h2
    rename_i hbx
    obtain ⟨τ, e1, e2, ht⟩ := trace_of m (k + 1) h2
    refine ⟨fun i => if i = k then σ else τ i, by simp, ?_, ⟨fun i h3 h4 => ?_⟩⟩
    · show (if k + (m + 1) = k then σ else τ (k + (m + 1))) = σ'
      rw [if_neg (by omega), ← e2]; congr 1; omega
    · by_cases hi : i = k
      · subst hi
        refine ⟨o, w, v, d, ho, ?_, hd, hc.1, ?_, ?_, ?_, (fun hb => by simpa [hb] using hbx), ?_⟩
        · rw [if_pos rfl]; exact hw
        · rw [if_pos rfl]; exact hc.2
        · intro hw1; subst hw1; rw [if_pos rfl] at hv ⊢; exact hv
        · intro hw1; subst hw1; simp at hv; exact hv.symm
        · rw [if_neg (by omega), if_pos rfl]; exact e1
      · obtain ⟨o', w', v', d', g1, g2, g3, g4, g5, g6, g7, g8, g9⟩ := ht.step i (by omega) (by omega)
        refine ⟨o', w', v', d', g1, ?_, g3, g4, ?_, ?_, g7, g8, ?_⟩
        · rw [if_neg hi]; exact g2
        · rw [if_neg hi]; exact g5
        · rw [if_neg hi]; exact g6
        · rw [if_neg (by omega), if_neg hi]; exact g9

/-- Where operation i writes. -/
def dstOf (ops : Array Oper) (i : Nat) : Option Nat := (ops[i]?).bind (·.dst)

structure Apart (ops : Array Oper) (K : Nat) : Prop where
  le : K ≤ ops.size
  ex : ∀ i, i < K → ∃ (o : Oper) (d : Nat), ops[i]? = some o ∧ o.dst = some d
  edge : ∀ (i : Nat) (o : Oper), ops[i]? = some o → ∀ e ∈ o.after, Region.binds .any e = true → e.on < i
  ne : ∀ (i j : Nat) (x y : Oper) (d : Nat), i < K → j < K → ops[i]? = some x → ops[j]? = some y → i ≠ j → y.dst = some d → x.dst ≠ some d
  look : ∀ (i j : Nat) (x y : Oper) (d : Nat), i < K → j < K → ops[i]? = some x → ops[j]? = some y → i ≠ j → y.dst = some d → d ∈ x.looksAt ops → waits x j = true ∨ waits y i = true
  tail : ∀ i, K ≤ i → i < ops.size → ∀ j, j < i → lateAt ops K j = true ∨ j ∈ ancL ops i (preds ops i)
  late : ∀ i, lateAt ops K i = true → Region.noSelect ops = true ∧ (∀ j ∈ preds ops i, j ∈ ancL ops K (preds ops K)) ∧ ∀ (j : Nat) (x y : Oper), ops[i]? = some x → ops[j]? = some y → i ≠ j → waits y i = true ∨ waits x j = true ∨ x.apart ops y = true

theorem late_of {ops : Array Oper} {K i : Nat} (h : lateAt ops K i = true) : i < K ∧ K < ops.size ∧ ∃ (o : Oper) (u : Operand) (c : Nat), ops[i]? = some o ∧ (o.op = .extract u c ∨ o.op = .move u) ∧ o.guard = none := by
  unfold lateAt at h
  simp only [Bool.and_eq_true, decide_eq_true_eq] at h
  refine ⟨h.1.1.1, h.1.1.2, ?_⟩
  have h1 := h.1.2
  split at h1
  · rename_i e; exact ⟨_, _, _, e, .inl rfl, rfl⟩
  · rename_i e; exact ⟨_, _, 0, e, .inr rfl, rfl⟩
  · simp at h1

theorem tailAt_le : ∀ l : List Oper, tailAt l ≤ l.length
  | [] => Nat.le_refl _
  | o :: l => by
    simp only [tailAt, List.length_cons]
    split
    · omega
    · have := tailAt_le l; omega
theorem apart_of {ops : Array Oper} (h0 : apartOk ops = true) : Apart ops (tailAt ops.toList) := by
  unfold apartOk at h0
  obtain ⟨h0, hl⟩ := Bool.and_eq_true_iff.1 h0
  obtain ⟨h, ht⟩ := Bool.and_eq_true_iff.1 h0
  have hle : tailAt ops.toList ≤ ops.size := by have := tailAt_le ops.toList; simpa using this
  generalize tailAt ops.toList = K at h ht hl hle ⊢
  rw [List.all_eq_true] at h ht hl
  have hx : ∀ i x, i < K → ops[i]? = some x → x.dst.isSome = true ∧ (x.after.all fun e => !Region.binds .any e || decide (e.on < i)) = true ∧ ∀ j, j < K → (i == j || (match ops[j]? with
      | none => false
      | some y => (match y.dst with
        | none => false
        | some d => x.dst != some d && (!(x.looksAt ops).contains d || waits x j || waits y i)))) = true := fun i x hi e => by
    have h1 := h i (List.mem_range.2 hi)
    simp only [e, Bool.and_eq_true, List.all_eq_true] at h1
    exact ⟨h1.1.1, h1.1.2, fun j hj => h1.2 j (List.mem_range.2 hj)⟩
  have hy : ∀ i, K ≤ i → i < ops.size → (∀ j ∈ preds ops i, j < i) ∧ ∀ j, j < i → lateAt ops K j = true ∨ j ∈ ancL ops i (preds ops i) := fun i hi hs => by
    have h1 := ht i (List.mem_range.2 hs)
    rw [decide_eq_false (by omega), Bool.false_or, Bool.and_eq_true, List.all_eq_true, List.all_eq_true] at h1
    exact ⟨fun j hj => by simpa using h1.1 j hj, fun j hj => by simpa using h1.2 j (List.mem_range.2 hj)⟩
  refine ⟨hle, fun i hi => ?_, fun i o e ed hed hb => ?_, fun i j x y d hi hj ei ej hij hy => ?_, fun i j x y d hi hj ei ej hij hy hl => ?_, fun i hi hs => (hy i hi hs).2, fun i hi => ?_⟩
  · obtain ⟨d, hd⟩ := Option.isSome_iff_exists.1 (hx i _ hi (Array.getElem?_eq_getElem (by omega))).1
    exact ⟨_, d, Array.getElem?_eq_getElem (by omega), hd⟩
  · by_cases hi : i < K
    · have h1 := Array.all_eq_true_iff_forall_mem.1 (hx i o hi e).2.1 ed hed
      simp only [hb, Bool.not_true, Bool.false_or, decide_eq_true_eq] at h1
      exact h1
    · refine (hy i (by omega) (Array.getElem?_eq_some_iff.1 e).1).1 _ ?_
      unfold preds
      rw [e]
      exact List.mem_map.2 ⟨ed, List.mem_filter.2 ⟨by simpa using hed, hb⟩, rfl⟩
  · have h1 := (hx i x hi ei).2.2 j hj
    simp only [ej, hy, Bool.or_eq_true, Bool.and_eq_true, beq_iff_eq, hij, false_or] at h1
    simpa using h1.1
  · have h1 := (hx i x hi ei).2.2 j hj
    simp only [ej, hy, Bool.or_eq_true, Bool.and_eq_true, beq_iff_eq, hij, false_or] at h1
    rcases h1.2 with (h2 | h2) | h2
    · simp [hl] at h2
    · exact .inl h2
    · exact .inr h2
  · obtain ⟨h1, h2, o, u, c, ho, _⟩ := late_of hi
    have h3 := hl i (List.mem_range.2 (Array.getElem?_eq_some_iff.1 ho).1)
    rw [hi, Bool.not_true, Bool.false_or] at h3
    simp only [Bool.and_eq_true, List.all_eq_true] at h3
    refine ⟨h3.1.1, fun j hj => by simpa using h3.1.2 j hj, fun j x y hx hy hij => ?_⟩
    have h4 := h3.2 j (List.mem_range.2 (Array.getElem?_eq_some_iff.1 hy).1)
    simp only [hx, hy, Bool.or_eq_true, beq_iff_eq, hij, false_or] at h4
    rcases h4 with (h4 | h4) | h4
    · exact .inl h4
    · exact .inr (.inl h4)
    · exact .inr (.inr h4)

end Go.Proofs.YticgilhndadkiaaGreatDoor.R

/- Operations in whatever order come to the same. -/
set_option linter.unusedVariables false
set_option linter.unusedSimpArgs false
namespace Go.Proofs.YticgilhndadkiaaGreatDoor.R
open Go

section
variable {E : Env} {call : CallF} {N : Nat} {ops : Array Oper} {τ : Nat → St} {K : Nat}

theorem nodup_len' : ∀ {L M : List Nat}, L.Nodup → (∀ a ∈ L, a ∈ M) → L.length ≤ M.length
  | [], _, _, _ => Nat.zero_le _
  | a :: L, M, hn, hm => by
    have ha := hm a (by simp)
    have h2 : L.length ≤ (M.erase a).length := nodup_len' (List.nodup_cons.1 hn).2 fun b hb => by
      refine (List.mem_erase_of_ne ?_).2 (hm b (by simp [hb]))
      rintro rfl
      exact (List.nodup_cons.1 hn).1 hb
    have h3 := List.length_erase_of_mem ha
    have h4 : 0 < M.length := List.length_pos_of_mem ha
    simp only [List.length_cons]
    omega
theorem dstOf_of {i d : Nat} {o : Oper} (h : ops[i]? = some o) (hd : o.dst = some d) : dstOf ops i = some d := by simp [dstOf, h, hd]
theorem dstOf_inv {i d : Nat} (h : dstOf ops i = some d) : ∃ o, ops[i]? = some o ∧ o.dst = some d := by
  unfold dstOf at h
  exact some_bind h
theorem dst_inj (hA : Apart ops K) {i j d : Nat} (hi : i < K) (hj : j < K) (h : dstOf ops i = some d) (h' : dstOf ops j = some d) : i = j := by
  obtain ⟨x, hx, hdx⟩ := dstOf_inv h
  obtain ⟨y, hy, hdy⟩ := dstOf_inv h'
  by_cases e : i = j
  · exact e
  · exact absurd hdx (hA.ne i j x y d hi hj hx hy e hdy)

theorem trace_len (hT : Trace E call N ops 0 K τ) : ∀ i, i ≤ K → (τ i).length = (τ 0).length
  | 0, _ => rfl
  | i + 1, h => by
    obtain ⟨o, w, v, d, _, _, _, _, _, _, _, _, e⟩ := hT.step i (Nat.zero_le _) (by omega)
    rw [e, List.length_set]
    exact trace_len hT i (by omega)

/-- Ahead of its writer a slot is as at the beginning. -/
theorem trace_before (hT : Trace E call N ops 0 K τ) {t : Nat} : ∀ i, i ≤ K → (∀ j, j < i → dstOf ops j ≠ some t) → (τ i)[t]? = (τ 0)[t]?
  | 0, _, _ => rfl
  | i + 1, h, hn => by
    obtain ⟨o, w, v, d, ho, _, hd, _, _, _, _, _, e⟩ := hT.step i (Nat.zero_le _) (by omega)
    have hne : d ≠ t := fun e1 => hn i (by omega) (by subst e1; exact dstOf_of ho hd)
    rw [e, List.getElem?_set_ne hne]
    exact trace_before hT i (by omega) fun j hj => hn j (by omega)

/-- Behind its writer a slot stays. -/
theorem trace_after (hT : Trace E call N ops 0 K τ) (hA : Apart ops K) {t j : Nat} (hj : dstOf ops j = some t) : ∀ (m : Nat), j + 1 + m ≤ K → (τ (j + 1 + m))[t]? = (τ (j + 1))[t]?
  | 0, _ => rfl
  | m + 1, h => by
    obtain ⟨o, w, v, d, ho, _, hd, _, _, _, _, _, e⟩ := hT.step (j + 1 + m) (Nat.zero_le _) (by omega)
    have hne : d ≠ t := fun e1 => by
      subst e1
      have := dst_inj hA (by omega) (by omega) (dstOf_of ho hd) hj
      omega
    have e2 : j + 1 + (m + 1) = j + 1 + m + 1 := by omega
    rw [e2, e, List.getElem?_set_ne hne]
    exact trace_after hT hA hj m (by omega)

theorem trace_after' (hT : Trace E call N ops 0 K τ) (hA : Apart ops K) {t j i : Nat} (hj : dstOf ops j = some t) (hi : j < i) (hn : i ≤ K) : (τ i)[t]? = (τ K)[t]? := by
  have h1 := trace_after hT hA hj (i - (j + 1)) (by omega)
  have h2 := trace_after hT hA hj (K - (j + 1)) (by omega)
  rw [show j + 1 + (i - (j + 1)) = i from by omega] at h1
  rw [show j + 1 + (K - (j + 1)) = K from by omega] at h2
  rw [h1, h2]

theorem trace_val (hT : Trace E call N ops 0 K τ) (hA : Apart ops K) {i d : Nat} {v : SV} (hi : i < K) (hd : dstOf ops i = some d) (e : τ (i + 1) = (τ i).set d v) (hlt : d < (τ 0).length) : (τ K)[d]? = some v := by
  rw [← trace_after' hT hA hd (Nat.lt_succ_self i) hi, e, List.getElem?_set_self (by rw [trace_len hT i (by omega)]; exact hlt)]

/-- Where the operations 'listed' have been carried out. -/
structure Mid (ops : Array Oper) (K : Nat) (τ : Nat → St) (listed : Array Bool) (σ : St) : Prop where
  size : listed.size = ops.size
  len : σ.length = (τ 0).length
  low : ∀ i, listed.getD i false = true → i < K
  closed : ∀ (i : Nat) (o : Oper), listed.getD i false = true → ops[i]? = some o → ∀ e ∈ o.after, Region.binds .any e = true → listed.getD e.on false = true
  done : ∀ (t j : Nat), listed.getD j false = true → dstOf ops j = some t → σ[t]? = (τ K)[t]?
  rest : ∀ (t : Nat), (∀ j, listed.getD j false = true → dstOf ops j ≠ some t) → σ[t]? = (τ 0)[t]?

theorem getD_sets {listed : Array Bool} {i j : Nat} (h : (listed.setIfInBounds i true).getD j false = true) : j = i ∨ listed.getD j false = true := by
  by_cases e : i = j
  · exact .inl e.symm
  · rw [getD_set_ne false e] at h; exact .inr h

theorem mid_end (hT : Trace E call N ops 0 K τ) {listed : Array Bool} {σ : St} (M : Mid ops K τ listed σ) (h : ∀ i, i < K → listed.getD i false = true) : σ = τ K := by
  apply List.ext_getElem?
  intro t
  by_cases hx : ∃ j, j < K ∧ dstOf ops j = some t
  · obtain ⟨j, hjk, hj⟩ := hx
    exact M.done t j (h j hjk) hj
  · have hn : ∀ j, j < K → dstOf ops j ≠ some t := fun j hj e => hx ⟨j, hj, e⟩
    rw [M.rest t fun j hj => hn j (M.low j hj), trace_before hT K (Nat.le_refl _) hn]

theorem getD_of {σ σ' : St} {t : Nat} (h : σ[t]? = σ'[t]?) : σ.getD t .undef = σ'.getD t .undef := by
  rw [List.getD_eq_getElem?_getD, List.getD_eq_getElem?_getD, h]

/-- What operation i looks at is as it was in turn. -/
theorem mid_look (hT : Trace E call N ops 0 K τ) (hA : Apart ops K) {listed : Array Bool} {σ : St} (M : Mid ops K τ listed σ) {i : Nat} {x : Oper} (hi : i < K) (hx : ops[i]? = some x) (hun : listed.getD i false = false)
    (hr : ∀ e ∈ x.after, Region.binds .any e = true → listed.getD e.on false = true) {t : Nat} (hl : t ∈ x.looksAt ops ∨ x.dst = some t ∨ ∀ j, j < K → dstOf ops j ≠ some t) : (τ i)[t]? = σ[t]? := by
  have hlater : ∀ j, j < K → dstOf ops j = some t → i ≤ j → listed.getD j false = false → (τ i)[t]? = σ[t]? := fun j hjk hj hij hnj => by
    rw [trace_before hT i (by omega) fun j' h' e => by have := dst_inj hA (by omega) hjk e hj; omega, M.rest t fun j' h' e => by
      have := dst_inj hA (M.low _ h') hjk e hj
      subst this
      rw [hnj] at h'; simp at h']
  by_cases hex : ∃ j, j < K ∧ dstOf ops j = some t
  case neg =>
    have hn : ∀ j, j < K → dstOf ops j ≠ some t := fun j hj e => hex ⟨j, hj, e⟩
    rw [trace_before hT i (by omega) fun j hj => hn j (by omega), M.rest t fun j hj => hn j (M.low j hj)]
  obtain ⟨j, hjk, hj⟩ := hex
  obtain ⟨y, hy, hdy⟩ := dstOf_inv hj
  by_cases hij : i = j
  · subst hij; exact hlater i hi hj (Nat.le_refl _) hun
  rcases hl with hl | hl | hl
  · rcases hA.look i j x y t hi hjk hx hy hij hdy hl with h1 | h1
    · unfold waits at h1
      obtain ⟨e, he, hb⟩ := Array.any_eq_true'.1 h1
      simp only [Bool.and_eq_true, beq_iff_eq] at hb
      have hlj := hr e he hb.1
      rw [hb.2] at hlj
      have hlt := hA.edge i x hx e he hb.1
      rw [hb.2] at hlt
      rw [M.done t j hlj hj, trace_after' hT hA hj hlt (by omega)]
    · unfold waits at h1
      obtain ⟨e, he, hb⟩ := Array.any_eq_true'.1 h1
      simp only [Bool.and_eq_true, beq_iff_eq] at hb
      have hlt := hA.edge j y hy e he hb.1
      rw [hb.2] at hlt
      refine hlater j hjk hj (by omega) ?_
      cases hc : listed.getD j false with
      | false => rfl
      | true =>
        have := M.closed j y hc hy e he hb.1
        rw [hb.2, hun] at this; simp at this
  · exact absurd (dst_inj hA hjk hi hj (dstOf_of hx hl)).symm hij
  · exact absurd hj (hl j hjk)

theorem plain_notBox {x : SV} (h : plain x = true) : ∀ l, x ≠ .c .box l := fun l e => by subst e; simp [plain] at h

/-- A variable that an operation holds the address of is as it was in turn. -/
theorem mid_box (hT : Trace E call N ops 0 K τ) (hA : Apart ops K) {listed : Array Bool} {σ : St} (M : Mid ops K τ listed σ) {i s : Nat} (hi : i < K) {l : List CV} (h : (τ i).getD s .undef = .c .box l) (hs : ∃ l', σ[s]? = some (.c .box l')) : σ.getD s .undef = .c .box l := by
  by_cases hex : ∃ j, j < K ∧ dstOf ops j = some s
  case neg =>
    have hn : ∀ j, j < K → dstOf ops j ≠ some s := fun j hj e => hex ⟨j, hj, e⟩
    rw [← h]
    exact getD_of (by rw [trace_before hT i (by omega) fun j hj => hn j (by omega), M.rest s fun j hj => hn j (M.low j hj)])
  obtain ⟨j, hjk, hj⟩ := hex
  obtain ⟨y, hy, hdy⟩ := dstOf_inv hj
  obtain ⟨o, w, v, d, ho, _, hd, _, hp, _, _, hnb, e⟩ := hT.step j (Nat.zero_le _) hjk
  have hds : d = s := by have := (dstOf_of ho hd).symm.trans hj; injection this
  subst hds
  have hp0 : ∀ l', (τ 0)[d]? ≠ some (.c .box l') := fun l' e0 => by
    have h1 : (τ j)[d]? = (τ 0)[d]? := trace_before hT j (by omega) fun j' h' e => by have := dst_inj hA (by omega) hjk e hj; omega
    rw [List.getD_eq_getElem?_getD, h1, e0] at hp
    simp [plain] at hp
  have hlj : listed.getD j false = true := by
    cases hc : listed.getD j false with
    | true => rfl
    | false =>
      obtain ⟨l', hl'⟩ := hs
      rw [M.rest d fun j' h' e => by
        have := dst_inj hA (M.low _ h') hjk e hj
        subst this
        rw [hc] at h'; simp at h'] at hl'
      exact absurd hl' (hp0 l')
  have hij : j < i := by
    by_cases hlt : j < i
    · exact hlt
    · exfalso
      have h1 : (τ i)[d]? = (τ 0)[d]? := trace_before hT i (by omega) fun j' h' e => by have := dst_inj hA (by omega) hjk e hj; omega
      rw [List.getD_eq_getElem?_getD, h1] at h
      cases e0 : (τ 0)[d]? with
      | none => rw [e0] at h; simp at h
      | some z => rw [e0] at h; simp at h; exact hp0 l (by rw [e0, h])
  rw [← h]
  exact getD_of (by rw [M.done d j hlj hj, trace_after' hT hA hj hij (by omega)])

theorem plain_noOw {σ : St} {d p : Nat} (h : plain (σ.getD d .undef) = true) : (cellAt σ d p).isOw = false := by
  unfold cellAt
  generalize σ.getD d .undef = x at h
  cases x with
  | c sh l =>
    have : ∀ c ∈ l, c.isOw = false := fun c hc => by
      cases sh with
      | box => simp [plain] at h
      | _ => simp only [plain, List.all_eq_true, Bool.not_eq_true'] at h; exact h c hc
    cases e : l[p]? with
    | none => simp [List.getD_eq_getElem?_getD, e, CV.isOw]
    | some c => simp [List.getD_eq_getElem?_getD, e]; exact this c (List.mem_of_getElem? e)
  | _ => rfl

theorem plain_bare {X : Ctx} {vs : List Value} {σ : St} (hg : Good X vs σ NoE) {d : Nat} (h : plain (σ.getD d .undef) = true) : Bare X σ d := by
  have hbx : ∀ l, σ[d]? ≠ some (.c .box l) := fun l e => plain_notBox h l (by rw [List.getD_eq_getElem?_getD, e]; rfl)
  refine ⟨fun p => free_of hg (plain_noOw h), fun b base tip e => ?_, fun p => plain_noOw h, hbx⟩
  obtain ⟨l, hl⟩ := hg.tags.box _ _ _ _ e
  exact hbx l hl

theorem getD_bool {listed : Array Bool} {i : Nat} (h : i < listed.size) : listed.getD i true = listed.getD i false := by simp [h]

/-- What operation i waits for, where all of it has been carried out. -/
theorem anc_listed {listed : Array Bool} (hc : ∀ (i : Nat) (o : Oper), listed.getD i false = true → ops[i]? = some o → ∀ e ∈ o.after, Region.binds .any e = true → listed.getD e.on false = true) :
    ∀ (n : Nat) (l : List Nat), (∀ j ∈ l, listed.getD j false = true) → ∀ j ∈ ancL ops n l, listed.getD j false = true
  | 0, l, h, j, hj => h j hj
  | n + 1, l, h, j, hj => by
    simp only [ancL] at hj
    split at hj
    · rename_i hn
      refine anc_listed hc n _ (fun k hk => ?_) j hj
      rcases List.mem_append.1 hk with h1 | h1
      · unfold preds at h1
        split at h1
        · rename_i o ho
          obtain ⟨e, he, rfl⟩ := List.mem_map.1 h1
          have he := List.mem_filter.1 he
          exact hc n o (h n (by simpa using hn)) ho e (by simpa using he.1) he.2
        · simp at h1
      · exact h k h1
    · exact anc_listed hc n l h j hj

/-- The operations of the end, in order. -/
theorem tail_ok {P : Program} (hTO : TOk P E.T) (hcall : CallOk P call) (hA : Apart ops K) {gv : List Value} {Q : Exit → Act → World → Prop} : ∀ (m fuel : Nat) {listed : Array Bool} {X : Ctx} {a : Act} {σ σ' : St} {i : Nat}, ops.size - i = m → m ≤ fuel → i ≤ ops.size → K ≤ i → listed.size = ops.size →
    (∀ j, listed.getD j false = true ↔ j < i) →
    Good X (All a gv) σ NoE → N = a.tmps.size → runOps E call N ops (List.range' i (ops.size - i)) σ = some σ' → (∀ a' X', Goes X X' → Good X' (All a' gv) σ' NoE → a'.tmps.size = N → a'.defers = a.defers → Q .normal a' X'.w) → wpAny P .any ops Q fuel listed a X.w := by
  intro m
  induction m with
  | zero =>
    intro fuel listed X a σ σ' i hm hf hi hK hsz hl hg hN h hQ
    have hii : i = ops.size := by omega
    subst hii
    rw [Nat.sub_self] at h
    simp only [List.range'_zero, runOps] at h
    injection h with h; subst h
    refine wpAny_done ?_ (hQ a X (.refl X) hg hN.symm rfl) fuel
    cases hr : Region.ready .any ops listed with
    | nil => rfl
    | cons k l =>
      have hm : k ∈ Region.ready .any ops listed := by rw [hr]; simp
      obtain ⟨h1, o, ho, _⟩ := mem_ready.1 hm
      have hk := (Array.getElem?_eq_some_iff.1 ho).1
      rw [getD_bool (by rw [hsz]; exact hk), (hl k).2 hk] at h1
      simp at h1
  | succ m ih =>
    intro fuel listed X a σ σ' i hm hf hi hK hsz hl hg hN h hQ
    obtain ⟨fuel, rfl⟩ : ∃ n, fuel = n + 1 := ⟨fuel - 1, by omega⟩
    have hlt : i < ops.size := by omega
    have hready : i ∈ Region.ready .any ops listed := mem_ready.2 ⟨by
        rw [getD_bool (by rw [hsz]; exact hlt)]
        cases hc : listed.getD i false with
        | false => rfl
        | true => exact absurd ((hl i).1 hc) (Nat.lt_irrefl i), _, Array.getElem?_eq_getElem hlt, fun e he hb => (hl _).2 (hA.edge i _ (Array.getElem?_eq_getElem hlt) e he hb)⟩
    refine ⟨fun hr => (by rw [hr] at hready; simp at hready), fun k hk => ?_⟩
    obtain ⟨h1, x, hx, hed⟩ := mem_ready.1 hk
    have hks := (Array.getElem?_eq_some_iff.1 hx).1
    rw [getD_bool (by rw [hsz]; exact hks)] at h1
    have hge : i ≤ k := Nat.le_of_not_lt fun hh => by rw [(hl k).2 hh] at h1; simp at h1
    have hki : k = i := by
      by_cases hh : k = i
      · exact hh
      · exfalso
        have hanc := anc_listed (ops := ops) (listed := listed) (fun j o hj ho e he hb => (hl _).2 (by
          have := hA.edge j o ho e he hb
          have := (hl j).1 hj
          omega)) k (preds ops k) (fun j hj => by
            unfold preds at hj
            rw [hx] at hj
            obtain ⟨e, he, rfl⟩ := List.mem_map.1 hj
            have he := List.mem_filter.1 he
            exact hed e (by simpa using he.1) he.2) i ((hA.tail k (by omega) hks i (by omega)).resolve_left fun hh => by have := (late_of hh).1; omega)
        exact absurd ((hl i).1 hanc) (Nat.lt_irrefl i)
    subst hki
    have e1 : ops.size - k = (ops.size - (k + 1)) + 1 := by omega
    rw [e1, List.range'_succ] at h
    simp only [runOps, hx] at h
    obtain ⟨w, hw, h⟩ := some_bind h
    obtain ⟨σ1, h2, h3⟩ := some_bind h
    have hsz' : k < listed.size := by rw [hsz]; exact hlt
    have hl' : ∀ j, (listed.setIfInBounds k true).getD j false = true ↔ j < k + 1 := fun j => by
      by_cases hjk : k = j
      · subst hjk; simp [hsz']
      · rw [getD_set_ne false hjk, hl j]; omega
    have hK' : ∀ a' X', Goes X X' → Good X' (All a' gv) σ1 NoE → a'.tmps.size = N → a'.defers = a.defers → wpAny P .any ops Q fuel (listed.setIfInBounds k true) a' X'.w := fun a' X' G hg' hs hd =>
      ih fuel (by omega) (by omega) (by omega) (by omega) (by simp [hsz]) hl' hg' hs.symm h3 fun a'' X'' G' hg'' hs' hd' => hQ a'' X'' (G.trans G') hg'' hs' (hd'.trans hd)
    unfold wpOp
    simp only [hx]
    rw [wanted_ok hg hN hw]
    cases w with
    | true =>
      simp only [if_true] at h2 ⊢
      exact .inl (step_ok hTO hcall hg hN h2 hK')
    | false =>
      simp only [Bool.false_eq_true, if_false] at h2 ⊢
      split at h2
      case isFalse => simp at h2
      rename_i hdok
      injection h2 with h2; subst h2
      obtain ⟨X', hw', G, hg'⟩ := skip_ok hg hN hdok
      rw [← hw']
      exact hK' _ X' G hg' (by rw [put_size]; exact hN.symm) (put_defers a x.dst undef)

theorem any_ok {P : Program} (hTO : TOk P E.T) (hcall : CallOk P call) (hT : Trace E call N ops 0 K τ) (hA : Apart ops K) {σe : St} (hend : runOps E call N ops (List.range' K (ops.size - K)) (τ K) = some σe) {gv : List Value} {Q : Exit → Act → World → Prop} (hQp : ∀ c a w, ¬Q (.panic c) a w) : ∀ (fuel : Nat) {listed : Array Bool} {U : List Nat} {X : Ctx} {a : Act} {σ : St}, Mid ops K τ listed σ → U.Nodup → (∀ i, i < ops.size → (listed.getD i false = false ↔ i ∈ U)) → (∀ i ∈ U, i < ops.size) → U.length ≤ fuel →
    Good X (All a gv) σ NoE → N = a.tmps.size → (∀ a' X', Goes X X' → Good X' (All a' gv) σe NoE → a'.tmps.size = N → a'.defers = a.defers → Q .normal a' X'.w) → wpAny P .any ops Q fuel listed a X.w := by
  intro fuel
  induction fuel with
  | zero =>
    intro listed U X a σ M hnd hU hUs hlen hg hN hQ
    have hall : ∀ i, i < ops.size → listed.getD i false = true := fun i hi => by
      cases h : listed.getD i false with
      | true => rfl
      | false =>
        have := (hU i hi).1 h
        have h0 : U = [] := List.length_eq_zero_iff.1 (by omega)
        rw [h0] at this; simp at this
    have hKs : K = ops.size := by
      have h1 := hA.le
      by_cases h2 : K = ops.size
      · exact h2
      · have := M.low _ (hall K (by omega)); omega
    have e := mid_end hT M fun i hi => hall i (by omega)
    subst e
    exact tail_ok hTO hcall hA 0 0 (i := ops.size) (by omega) (Nat.le_refl _) (Nat.le_refl _) (by omega) M.size (fun j => ⟨fun h => hKs ▸ M.low j h, fun h => hall j h⟩) hg hN (by rw [hKs] at hend ⊢; exact hend) hQ
  | succ fuel ih =>
    intro listed U X a σ M hnd hU hUs hlen hg hN hQ
    by_cases hall : ∀ i, i < K → listed.getD i false = true
    · have e := mid_end hT M hall
      subst e
      refine tail_ok hTO hcall hA (ops.size - K) (fuel + 1) (i := K) rfl ?_ hA.le (Nat.le_refl _) M.size (fun j => ⟨M.low j, hall j⟩) hg hN hend hQ
      have : (List.range' K (ops.size - K)).length ≤ U.length := nodup_len' (List.nodup_range') fun j hj => by
        obtain ⟨h1, h2⟩ := List.mem_range'_1.1 hj
        refine (hU j (by omega)).1 ?_
        cases hc : listed.getD j false with
        | false => rfl
        | true => have := M.low j hc; omega
      rw [List.length_range'] at this
      omega
    have hstep : ∀ (i : Nat) (x : Oper), i < K → ops[i]? = some x → listed.getD i false = false → (∀ e ∈ x.after, Region.binds .any e = true → listed.getD e.on false = true) → ∀ (G : Prop),
        (∀ (w : Bool) (d : Nat) (v : SV), x.dst = some d → Bare X σ d → d < σ.length → d < N → wantedSt N ops x σ = some w → (w = true → drawOp E call N x σ = some v) → (w = false → v = skipSV) →
          (∀ u X', Eff X X' (All a gv) σ d u v → wpAny P .any ops Q fuel (listed.setIfInBounds i true) (a.put x.dst u) X'.w) → G) → G := by
      intro i x hi hx h1 hed G hG
      have hio := (Array.getElem?_eq_some_iff.1 hx).1
      obtain ⟨o, w, v, d, ho, hw, hd, hdN, hp, hv1, hv2, hnb, e⟩ := hT.step i (Nat.zero_le _) hi
      have hxo : x = o := by rw [hx] at ho; injection ho
      subst hxo
      have hlook : ∀ t, (t ∈ x.looksAt ops ∨ x.dst = some t ∨ ∀ j, j < K → dstOf ops j ≠ some t) → (τ i)[t]? = σ[t]? := fun t hl => mid_look hT hA M hi hx h1 hed hl
      have hwσ : wantedSt N ops x σ = some w := by
        rw [← hw]
        exact (wantedSt_congr fun t ht => getD_of (hlook t (.inl (List.mem_append_right _ ht)))).symm
      have hpσ : plain (σ.getD d .undef) = true := by rw [← getD_of (hlook d (.inr (.inl hd)))]; exact hp
      have hb := plain_bare hg hpσ
      have hdl : d < σ.length := Nat.lt_of_lt_of_le hdN (by
        rw [← hg.frame.1]; unfold All; rw [List.length_append, Array.length_toList]; omega)
      have hval := trace_val hT hA hi (dstOf_of hx hd) e (by rw [← M.len]; exact hdl)
      have hsz : i < listed.size := by rw [M.size]; exact hio
      have hM' : Mid ops K τ (listed.setIfInBounds i true) (σ.set d v) := by
        refine ⟨by simp [M.size], by simp [M.len], fun k hk => ?_, fun k o' hk ho' ed hed' hbd => ?_, fun t j hj hdt => ?_, fun t hn => ?_⟩
        · rcases getD_sets hk with hk | hk
          · subst hk; exact hi
          · exact M.low k hk
        · rcases getD_sets hk with hk | hk
          · subst hk
            rw [hx] at ho'; injection ho' with ho'; subst ho'
            exact getD_set_true (hed ed hed' hbd)
          · exact getD_set_true (M.closed k o' hk ho' ed hed' hbd)
        · rcases getD_sets hj with hj2 | hj2
          · subst hj2
            have : t = d := by have := hdt.symm.trans (dstOf_of hx hd); injection this
            subst this
            rw [List.getElem?_set_self hdl, hval]
          · have hne : d ≠ t := fun e1 => by
              subst e1
              have := dst_inj hA (M.low _ hj2) hi hdt (dstOf_of hx hd)
              rw [this, h1] at hj2; simp at hj2
            rw [List.getElem?_set_ne hne]
            exact M.done t j hj2 hdt
        · have hne : d ≠ t := fun e1 => by
            subst e1
            refine hn i ?_ (dstOf_of hx hd)
            simp [hsz]
          rw [List.getElem?_set_ne hne]
          exact M.rest t fun j hj => hn j (getD_set_true hj)
      have hU' : ∀ k, k < ops.size → ((listed.setIfInBounds i true).getD k false = false ↔ k ∈ U.erase i) := fun k hk => by
        by_cases hki : k = i
        · subst hki
          have hne : ¬ k ∈ U.erase k := fun hh => by
            have := (List.Nodup.mem_erase_iff hnd).1 hh
            exact this.1 rfl
          simp [hsz, hne]
        · rw [getD_set_ne false (Ne.symm hki), List.mem_erase_of_ne hki]
          exact hU k hk
      have hlen' : (U.erase i).length ≤ fuel := by
        rw [List.length_erase_of_mem ((hU i hio).1 h1)]; omega
      have hK : ∀ u X', Eff X X' (All a gv) σ d u v → wpAny P .any ops Q fuel (listed.setIfInBounds i true) (a.put x.dst u) X'.w := fun u X' hE => by
        refine ih hM' (hnd.erase i) hU' (fun k hk => hUs k (List.mem_of_mem_erase hk)) hlen' ?_ (by rw [put_size]; exact hN) fun a' X'' G hg' hs hdf => hQ a' X'' (hE.goes.trans G) hg' hs (hdf.trans (put_defers a x.dst u))
        rw [hd, all_put (hN ▸ hdN)]
        exact hE.good
      have hopd : w = true → drawOp E call N x σ = some v := fun hw1 => by
        have hopd : ∀ y ∈ x.op.operands, opd E.T N x.type (τ i) y = opd E.T N x.type σ y := fun y hy => opd_congr fun t ht => by
          refine getD_of (hlook t (.inl (List.mem_append_left _ ?_)))
          subst ht
          exact List.mem_filterMap.2 ⟨.tmp t, by simpa using hy, rfl⟩
        refine drawOp_congr hopd (fun y hy s o' l hbp hs => ?_) (hv1 hw1)
        refine mid_box hT hA M hi hs ?_
        have hsv := opd_sv (T := E.T) (ty := x.type) hg hN y 0
        rw [← hopd y hy, hbp] at hsv
        generalize a.eval y = u0 at hsv
        cases hsv with
        | bp _ _ blk base tip ho => exact hg.tags.box _ _ _ _ ho
      exact hG w d v hd hb hdl hdN hwσ hopd hv2 hK
    by_cases hlate : ∃ i, lateAt ops K i = true ∧ i ∈ Region.ready .any ops listed
    · obtain ⟨i, hlt, hm⟩ := hlate
      obtain ⟨hi, hKs, x', u', c', hx', hop', hg'⟩ := late_of hlt
      obtain ⟨hns, _, hap⟩ := hA.late i hlt
      obtain ⟨h1, x, hx, hed⟩ := mem_ready.1 hm
      have : x = x' := by rw [hx] at hx'; injection hx'
      subst this
      have hio := (Array.getElem?_eq_some_iff.1 hx).1
      rw [getD_bool (by rw [M.size]; exact hio)] at h1
      refine hstep i x hi hx h1 hed _ fun w d v hd hb hdl hdN hwσ hpσ2 hv2 hK => ?_
      have hw0 : wantedSt N ops x σ = some true := by unfold wantedSt; rw [hg']
      rw [hw0] at hwσ
      injection hwσ with hwσ
      subst hwσ
      have hpσ3 := hpσ2 rfl
      have hal : isAlloc x.op = false := by rcases hop' with h | h <;> rw [h] <;> rfl
      rw [drawOp_pure hal] at hpσ3
      have hrun : ∃ u, (∀ w, (execOp a.eval x).run P w = .ok (.value u) w) ∧ OSV X u v := by
        rcases hop' with hop' | hop'
        · unfold pureOp at hpσ3
          simp only [hop'] at hpσ3
          split at hpσ3
          case h_2 => simp at hpσ3
          rename_i s l hsv
          have hxv := opd_sv (T := E.T) (ty := x.type) hg hN u'
          rw [hsv] at hxv
          obtain ⟨u, r, q⟩ := extract_sv (P := P) hxv hpσ3
          refine ⟨u, fun w => ?_, q⟩
          have h9 : execOp a.eval x = (do pure (Next.value (← Instr.extract (a.eval u') c')) : Sem Next) := by unfold execOp; simp only [hop']
          rw [h9]
          exact val_run (r w)
        · unfold pureOp at hpσ3
          simp only [hop'] at hpσ3
          injection hpσ3 with hpσ3
          subst hpσ3
          exact ⟨a.eval u', fun w => by unfold execOp; simp only [hop']; rfl, opd_sv (T := E.T) (ty := x.type) hg hN u'⟩
      obtain ⟨u, hrun, q⟩ := hrun
      have hyl : Yields P ops x u a := .inl ⟨by rw [wanted_ok hg hN hw0], hrun⟩
      refine wpAny_first hx (Region.noSelect_spec hns) (fun c a w h => absurd h (hQp c _ w)) fuel listed a X.w (fun j oj hoj hji hun hnw => ?_) hm hyl (hK u X (eff_pure hg hb hdl (PureRes.same hg.inv q)))
      rcases hap j x oj hx hoj (Ne.symm hji) with h2 | h2 | h2
      · unfold waits at h2
        obtain ⟨e, he, hb2⟩ := Array.any_eq_true'.1 h2
        simp only [Bool.and_eq_true, beq_iff_eq] at hb2
        exact absurd hb2.2 (hnw e he hb2.1)
      · unfold waits at h2
        obtain ⟨e, he, hb2⟩ := Array.any_eq_true'.1 h2
        simp only [Bool.and_eq_true, beq_iff_eq] at hb2
        have h5 := hed e he hb2.1
        rw [hb2.2] at h5
        have hjs := (Array.getElem?_eq_some_iff.1 hoj).1
        rw [getD_bool (by rw [M.size]; exact hjs), h5] at hun
        simp at hun
      · exact h2
    have hleft : ∃ i, i < K ∧ listed.getD i false = false := by
      refine Classical.byContradiction fun hh => hall fun i hi => ?_
      cases hc : listed.getD i false with
      | true => rfl
      | false => exact absurd ⟨i, hi, hc⟩ hh
    refine ⟨fun hr => ?_, fun i hm => ?_⟩
    · exfalso
      have : ∀ i, i < K → listed.getD i false = true := by
        intro i
        induction i using Nat.strongRecOn with
        | _ i ih' =>
          intro hi
          have hio : i < ops.size := Nat.lt_of_lt_of_le hi hA.le
          cases h : listed.getD i false with
          | true => rfl
          | false =>
            have : i ∈ Region.ready .any ops listed := mem_ready.2 ⟨by rw [getD_bool (by rw [M.size]; exact hio)]; exact h, _, Array.getElem?_eq_getElem hio, fun e he hb => by
              have hlt := hA.edge i _ (Array.getElem?_eq_getElem hio) e he hb
              exact ih' e.on hlt (by omega)⟩
            rw [hr] at this; simp at this
      exact hall this
    · obtain ⟨h1, x, hx, hed⟩ := mem_ready.1 hm
      have hio := (Array.getElem?_eq_some_iff.1 hx).1
      rw [getD_bool (by rw [M.size]; exact hio)] at h1
      have hi : i < K := by
        refine Nat.lt_of_not_le fun hge => ?_
        obtain ⟨j, hj, hun⟩ := hleft
        have hpr : ∀ k ∈ preds ops i, listed.getD k false = true := fun k hk => by
          unfold preds at hk
          rw [hx] at hk
          obtain ⟨e, he, rfl⟩ := List.mem_map.1 hk
          have he := List.mem_filter.1 he
          exact hed e (by simpa using he.1) he.2
        have hanc := anc_listed (ops := ops) M.closed i (preds ops i) hpr
        have hKanc : ∀ k ∈ ancL ops K (preds ops K), listed.getD k false = true := by
          by_cases hiK : i = K
          · rw [← hiK]; exact hanc
          · exfalso
            have := hanc K ((hA.tail i hge hio K (by omega)).resolve_left fun hh => by have := (late_of hh).1; omega)
            have := M.low K this
            omega
        rcases hA.tail i hge hio j (by omega) with h2 | h2
        · obtain ⟨hjK, hKs, xj, uj, cj, hxj, _, _⟩ := late_of h2
          refine hlate ⟨j, h2, mem_ready.2 ⟨?_, xj, hxj, fun e he hb => ?_⟩⟩
          · rw [getD_bool (by rw [M.size]; omega)]; exact hun
          · refine hKanc _ ((hA.late j h2).2.1 _ ?_)
            unfold preds
            rw [hxj]
            exact List.mem_map.2 ⟨e, List.mem_filter.2 ⟨by simpa using he, hb⟩, rfl⟩
        · have := hanc j h2
          rw [hun] at this; simp at this
      refine hstep i x hi hx h1 hed _ fun w d v hd hb hdl hdN hwσ hpσ2 hv2 hK => ?_
      unfold wpOp
      simp only [hx]
      rw [wanted_ok hg hN hwσ]
      cases w with
      | false =>
        simp only [Bool.false_eq_true, if_false]
        have hv := hv2 rfl
        subst hv
        exact hK undef X (eff_pure hg hb hdl (PureRes.same hg.inv (v := undef) (sv := skipSV) fun k => skip_rel))
      | true =>
        simp only [if_true]
        have hpσ2 := hpσ2 rfl
        left
        unfold Oper.wp
        cases hal : isAlloc x.op with
        | true =>
          obtain ⟨t, ht⟩ := isAlloc_op hal
          unfold drawOp at hpσ2
          simp only [ht] at hpσ2
          obtain ⟨z, hz, hv⟩ := some_map hpσ2
          obtain ⟨u, X', hr, hE⟩ := eff_alloc (P := P) hTO hg hb hdl hz
          have he : (execOp a.eval x).run P X.w = .ok (.value u) X'.w := by
            have h9 : (execOp a.eval x) = (do pure (Next.value (← Instr.alloc t true (.tuple #[]))) : Sem Next) := by unfold execOp; simp only [ht]
            rw [h9]
            exact val_run hr
          rw [he, Oper.upon_value]
          rw [hv] at hE
          exact hK u X' hE
        | false =>
        rw [drawOp_pure hal] at hpσ2
        cases hc : isCall x with
        | false =>
          obtain ⟨u, X', hr, q⟩ := pure_run (P := P) hTO hg hN (hb.1 0) hpσ2 hc
          rw [hr, Oper.upon_value]
          exact hK u X' (eff_pure hg hb hdl q)
        | true =>
          obtain ⟨c, f, ho', hcal⟩ := isCall_op hc
          obtain ⟨g, args, e1, hL⟩ := pure_call hcall hg hN hb.no hpσ2 ho' hcal
          rw [e1]
          refine lands_upon (lands_mono hL ?_)
          rintro u w' ⟨X', rfl, q⟩
          exact hK u X' (eff_pure hg hb hdl q)

end
end Go.Proofs.YticgilhndadkiaaGreatDoor.R

/- The code of a function. -/
set_option linter.unusedVariables false
set_option linter.unusedSimpArgs false
namespace Go.Proofs.YticgilhndadkiaaGreatDoor.R
open Go

theorem good_drawn {X : Ctx} {vs : List Value} {σ : St} {E : Nat → Nat → Prop} (h : Good X vs σ E) (n : Nat) : Good (X.turned { X.w with drawn := n }) vs σ E :=
  have hm : Mono X (X.turned { X.w with drawn := n }) := ⟨fun f b h => ⟨h, rfl⟩, fun b t h => ⟨h, rfl⟩⟩
  ⟨turned_inv h.inv rfl, h.frame.mono hm, h.tags.cell, h.tags.box⟩
theorem goes_drawn (X : Ctx) (n : Nat) : Goes X (X.turned { X.w with drawn := n }) :=
  ⟨rfl, rfl, rfl, Nat.le_refl _, fun _ _ _ => rfl, rfl, fun _ h => h, fun _ h => .inl h, fun _ h => .inl h⟩

def exOf : Ex → Exit
  | .normal => .normal
  | .exit i => .exit i
  | .ret => .ret

theorem tidy1_ok {X : Ctx} {vs : List Value} {σ : St} (hg : Good X vs σ NoE) {d : Nat} (hd : d < σ.length) : ∃ X', X'.w = X.w ∧ Goes X X' ∧ Good X' vs ((clear d σ).set d .undef) NoE := by
  obtain ⟨X1, C⟩ := clear_good hg d
  have hdl : d < (clear d σ).length := by rw [C.size]; exact hd
  have hdv : d < vs.length := by rw [hg.frame.1]; exact hd
  have hE := eff_pure C.good ⟨C.free, C.noBox, C.noOw, C.noBx⟩ hdl (PureRes.same C.good.inv (v := vs[d]) (sv := .undef) fun k => .undef _)
  refine ⟨X1, C.w, C.goes, ?_⟩
  have := hE.good
  rw [List.set_getElem_self] at this
  exact this

theorem tidy_ok {N : Nat} : ∀ (l : List Nat) {X : Ctx} {vs : List Value} {σ : St}, Good X vs σ NoE → N ≤ σ.length → ∃ X', X'.w = X.w ∧ Goes X X' ∧ Good X' vs (tidy N l σ) NoE
  | [], X, vs, σ, hg, _ => ⟨X, rfl, .refl X, hg⟩
  | d :: l, X, vs, σ, hg, hN => by
    simp only [tidy]
    split
    · rename_i hd
      obtain ⟨X1, hw, G, hg1⟩ := tidy1_ok hg (Nat.lt_of_lt_of_le hd hN)
      obtain ⟨X2, hw2, G2, hg2⟩ := tidy_ok l hg1 (by rw [← hg1.frame.1, hg.frame.1]; exact hN)
      exact ⟨X2, hw2.trans hw, G.trans G2, hg2⟩
    · exact tidy_ok l hg hN

section
variable {P : Program} {E : Env} {call : CallF} {N : Nat} {gv : List Value}

theorem region_ok (hT : TOk P E.T) (hcall : CallOk P call) (hm : P.follows .mixedOrders = true) {id : Nat} {ops : Array Oper} {draw : Bool} {n : Nat} {X : Ctx} {a : Act} {σ : St} {r : Ex × St} {Q : Exit → Act → World → Prop} (hg : Good X (All a gv) σ NoE) (hN : N = a.tmps.size)
    (h : runCode E call N n (.region id ops draw) σ = some r) (hQ : ∀ a' X', Goes X X' → Good X' (All a' gv) r.2 NoE → a'.tmps.size = N → a'.defers = a.defers → Q (exOf r.1) a' X'.w) : (Code.region id ops draw).wp P Q a X.w := by
  simp only [runCode] at h
  cases draw with
  | false =>
    simp only [Bool.false_eq_true, if_false] at h
    obtain ⟨σ', h1, rfl⟩ := some_map h
    exact wp_region (runOps_ok hT hcall hg hN h1 hQ)
  | true =>
    simp only [if_true] at h
    split at h
    case isFalse => simp at h
    rename_i hap
    obtain ⟨σ', h1, rfl⟩ := some_map h
    obtain ⟨σ1, h1, hend⟩ := some_bind h1
    rw [List.range_eq_range'] at h1
    obtain ⟨τ, e1, e2, hTr⟩ := trace_of (tailAt ops.toList) 0 h1
    rw [Nat.zero_add] at e2 hTr
    refine wp_mono (Q := fun e a w => e = .normal ∧ Q .normal a w) ?_ (fun e a w h => by rw [h.1]; exact h.2)
    refine wp_region_any hm ?_
    have hno : ∀ i, (Array.replicate ops.size false).getD i false = true → False := fun i hi => by
      by_cases hlt : i < ops.size
      · simp [hlt] at hi
      · simp [hlt] at hi
    have hM : Mid ops (tailAt ops.toList) τ (Array.replicate ops.size false) σ :=
      ⟨by simp, by rw [e1], fun i hi => (hno i hi).elim, fun i o hi => (hno i hi).elim, fun t j hj => (hno j hj).elim, fun t _ => by rw [e1]⟩
    exact any_ok (gv := gv) (Q := fun e a w => e = .normal ∧ Q .normal a w) hT hcall hTr (apart_of hap) (by rw [e2]; exact hend) (fun c a w h => by simp at h) ops.size (U := List.range ops.size) (X := X.turned { X.w with drawn := X.w.drawn + 1 }) hM List.nodup_range (fun i hi => by simp [hi]) (fun i hi => List.mem_range.1 hi) (by simp) (good_drawn hg _) hN
      (fun a' X' G hg' hs hd => ⟨rfl, hQ a' X' ((goes_drawn X _).trans G) hg' hs hd⟩)

theorem loop_ok {c : Code} {f : St → Option (Ex × St)} (hc : ∀ {X : Ctx} {a : Act} {σ : St} {r : Ex × St} {Q : Exit → Act → World → Prop}, Good X (All a gv) σ NoE → N = a.tmps.size → f σ = some r →
      (∀ a' X', Goes X X' → Good X' (All a' gv) r.2 NoE → a'.tmps.size = N → a'.defers = a.defers → Q (exOf r.1) a' X'.w) → c.wp P Q a X.w) :
    ∀ (n : Nat) {X : Ctx} {a : Act} {σ : St} {r : Ex × St} {Q : Exit → Act → World → Prop}, Good X (All a gv) σ NoE → N = a.tmps.size → iter f n σ = some r →
      (∀ a' X', Goes X X' → Good X' (All a' gv) r.2 NoE → a'.tmps.size = N → a'.defers = a.defers → Q (exOf r.1) a' X'.w) → ∀ (b : Go.Frame) (k : List Item) (cs : List Go.Frame),
        ∃ e a' w', Q e a' w' ∧ Arrives P (lone (b.at a (.code c :: .inLoop c :: k)) cs X.w) b k cs e a' w'
  | 0, X, a, σ, r, Q, hg, hN, h, hQ, b, k, cs => by simp [iter] at h
  | n + 1, X, a, σ, r, Q, hg, hN, h, hQ, b, k, cs => by
    simp only [iter] at h
    obtain ⟨⟨e, σ1⟩, h1, h2⟩ := some_bind h
    let Q1 : Exit → Act → World → Prop := fun e' a' w' => e' = exOf e ∧ ∃ X', X'.w = w' ∧ Goes X X' ∧ Good X' (All a' gv) σ1 NoE ∧ a'.tmps.size = N ∧ a'.defers = a.defers
    obtain ⟨e', a₁, w₁, ⟨he, X', hw, G, hg', hs, hd⟩, harr⟩ := hc (Q := Q1) hg hN h1 (fun a' X' G hg' hs hd => ⟨rfl, X', rfl, G, hg', hs, hd⟩) b (.inLoop c :: k) cs
    subst hw
    cases e with
    | normal =>
      simp only [exOf] at he
      subst he
      simp only at h2
      obtain ⟨e₂, a₂, w₂, hq₂, harr₂⟩ := loop_ok hc n hg' hs.symm h2 (fun a'' X'' G' hg'' hs' hd' => hQ a'' X'' (G.trans G') hg'' hs' (hd'.trans hd)) b k cs
      exact ⟨e₂, a₂, w₂, hq₂, .of_steps (Steps.trans harr (.one step_inLoop)) harr₂⟩
    | exit id =>
      simp only [exOf] at he
      subst he
      simp only at h2
      injection h2 with h2; subst h2
      exact ⟨_, a₁, X'.w, hQ a₁ X' G hg' hs hd, .pass (x := .inLoop c) rfl (fun _ _ => .inl (by simp [exOf])) harr⟩
    | ret =>
      simp only [exOf] at he
      subst he
      simp only at h2
      injection h2 with h2; subst h2
      exact ⟨_, a₁, X'.w, hQ a₁ X' G hg' hs hd, .pass (x := .inLoop c) rfl (fun _ _ => .inl (by simp [exOf])) harr⟩

theorem code_ok (hT : TOk P E.T) (hcall : CallOk P call) (hm : P.follows .mixedOrders = true) {n : Nat} : ∀ (c : Code) {X : Ctx} {a : Act} {σ : St} {r : Ex × St} {Q : Exit → Act → World → Prop}, Good X (All a gv) σ NoE → N = a.tmps.size → runCode E call N n c σ = some r →
    (∀ a' X', Goes X X' → Good X' (All a' gv) r.2 NoE → a'.tmps.size = N → a'.defers = a.defers → Q (exOf r.1) a' X'.w) → c.wp P Q a X.w
  | .skip, X, a, σ, r, Q, hg, hN, h, hQ => by
    simp only [runCode] at h; injection h with h; subst h
    exact wp_skip (hQ a X (.refl X) hg hN.symm rfl)
  | .label l, X, a, σ, r, Q, hg, hN, h, hQ => by
    simp only [runCode] at h; injection h with h; subst h
    exact wp_label (hQ a X (.refl X) hg hN.symm rfl)
  | .region id ops draw, X, a, σ, r, Q, hg, hN, h, hQ => region_ok hT hcall hm hg hN h hQ
  | .seq x y, X, a, σ, r, Q, hg, hN, h, hQ => by
    simp only [runCode] at h
    obtain ⟨⟨e, σ1⟩, h1, h2⟩ := some_bind h
    refine wp_seq (code_ok hT hcall hm x hg hN h1 fun a' X' G hg' hs hd => ?_)
    cases e with
    | normal => exact code_ok hT hcall hm y hg' hs.symm h2 fun a'' X'' G' hg'' hs' hd' => hQ a'' X'' (G.trans G') hg'' hs' (hd'.trans hd)
    | exit id => simp only at h2; injection h2 with h2; subst h2; exact hQ a' X' G hg' hs hd
    | ret => simp only at h2; injection h2 with h2; subst h2; exact hQ a' X' G hg' hs hd
  | .cond c x y, X, a, σ, r, Q, hg, hN, h, hQ => by
    simp only [runCode] at h
    obtain ⟨t, h1, h2⟩ := some_bind h
    refine wp_cond (t := t) (bool_sv (opd_sv hg hN c) h1) ?_
    cases t with
    | true => exact code_ok hT hcall hm x hg hN (by simpa using h2) hQ
    | false => exact code_ok hT hcall hm y hg hN (by simpa using h2) hQ
  | .block id b, X, a, σ, r, Q, hg, hN, h, hQ => by
    simp only [runCode] at h
    obtain ⟨⟨e, σ1⟩, h1, h2⟩ := some_map h
    refine wp_block (code_ok hT hcall hm b hg hN h1 fun a' X' G hg' hs hd => ?_)
    cases e with
    | normal => subst h2; exact hQ a' X' G hg' hs hd
    | ret => subst h2; exact hQ a' X' G hg' hs hd
    | exit i =>
      simp only [exOf, Exit.inBlock]
      by_cases hi : i = id
      · simp only [if_pos hi] at h2 ⊢
        subst h2; exact hQ a' X' G hg' hs hd
      · simp only [if_neg hi] at h2 ⊢
        subst h2; exact hQ a' X' G hg' hs hd
  | .loop b, X, a, σ, r, Q, hg, hN, h, hQ => by
    simp only [runCode] at h
    intro fr k cs
    obtain ⟨e, a', w', hq, harr⟩ := loop_ok (P := P) (gv := gv) (N := N) (c := b) (fun {X a σ r Q} hg hN h hQ => by
      obtain ⟨X1, hw, G, hg1⟩ := tidy_ok (N := N) (E.D (firstId b)) hg (by rw [← hg.frame.1]; unfold All; rw [List.length_append, Array.length_toList]; omega)
      rw [← hw]
      exact code_ok hT hcall hm b hg1 hN h fun a' X' G' hg' hs hd => hQ a' X' (G.trans G') hg' hs hd) n hg hN h hQ fr k cs
    exact ⟨e, a', w', hq, .of_steps (.one step_loop) harr⟩
  | .exit id, X, a, σ, r, Q, hg, hN, h, hQ => by
    simp only [runCode] at h; injection h with h; subst h
    exact wp_exit (hQ a X (.refl X) hg hN.symm rfl)
  | .ret, X, a, σ, r, Q, hg, hN, h, hQ => by
    simp only [runCode] at h; injection h with h; subst h
    exact wp_ret (hQ a X (.refl X) hg hN.symm rfl)
  | .rangeFunc _ _ _ _, X, a, σ, r, Q, hg, hN, h, hQ => by simp [runCode] at h
  | .scope _, X, a, σ, r, Q, hg, hN, h, hQ => by simp [runCode] at h
  | .goto _, X, a, σ, r, Q, hg, hN, h, hQ => by simp [runCode] at h
  | .refuse _, X, a, σ, r, Q, hg, hN, h, hQ => by simp [runCode] at h

end
end Go.Proofs.YticgilhndadkiaaGreatDoor.R

/- What a function answers. -/
set_option linter.unusedVariables false
set_option linter.unusedSimpArgs false
namespace Go.Proofs.YticgilhndadkiaaGreatDoor.R
open Go

theorem weaken_cv {X : Ctx} {k j N : Nat} {v : Value} {c : CV} (h : CVRel X k j v c) : CVRel X k j v (weaken N c) := by
  cases h with
  | sh f p v h => exact .sh f p v h
  | ow0 f es a => exact .ow0 f es a
  | ow f es rows v blk off cap c elem fr h => exact .ow f es rows v blk off cap c elem fr h
  | br0 s o kd lo f es a => exact .br0 s o _ lo f es a
  | br s o kd lo f es rows v blk base tip cap c elem fr h =>
    simp only [weaken]
    refine .br s o _ lo f es rows v blk base tip cap c elem fr ⟨h.val, h.le, h.own, h.cells, h.fits, h.loose, h.tipLe, fun h1 => ?_, fun h1 => ?_, h.reads⟩
    · split at h1
      · rename_i hc; exact h.tip1 hc.2
      · omega
    · split at h1 <;> omega
  | brv s o lo f es rows v h =>
    simp only [weaken]
    rw [if_neg (by omega)]
    exact .brv s o lo f es rows v h
  | dead v => exact .dead v

theorem weaken_cells {X : Ctx} {N : Nat} : ∀ {vs : List Value} {l : List CV}, VCells X vs l → VCells X vs (l.map (weaken N))
  | _, _, .nil => .nil
  | _, _, .cons v c vs l h t => .cons v _ vs _ (fun k j => weaken_cv (h k j)) (weaken_cells t)

/-- What the results come to. -/
structure Left (P : Program) (X X' : Ctx) (vs : List Value) (σ σ' : St) (E : Nat → Nat → Prop) (d j : Nat) (vals : List Value) (fs : List (List Value)) (shapes : List (Bool × Nat)) (cells : List CV) : Prop where
  goes : Goes X X'
  w : X'.w = X.w
  good : Good X' vs σ' (fun a b => E a b ∨ (a = d ∧ j ≤ b ∧ b < j + cells.length))
  rel : CellsRel X' d j fs.flatten cells
  nums : vals.length = shapes.length ∧ fs.length = shapes.length
  flat : ∀ (i : Nat) (v : Value) (a : Bool) (n : Nat) (f : List Value), vals[i]? = some v → shapes[i]? = some (a, n) → fs[i]? = some f → f.length = n ∧ ((a = true ∧ ∃ cs : Array Value, v = .agg cs ∧ f = cs.toList) ∨ (a = false ∧ f = [v] ∧ ∀ cs, v ≠ .agg cs))
  free : ∀ s p, ¬(s = d ∧ j ≤ p ∧ p < j + cells.length) → Free X s p → Free X' s p
  noOw : ∀ s p, (cellAt σ s p).isOw = false → (cellAt σ' s p).isOw = false
  firm : ∀ k p v c, Firm σ k p c → CVRel X k p v c → CVRel X' k p v c
  tag : ∀ (p : Nat) (c : CV), cells[p]? = some c → c.isOw = false → Free X' d (j + p)
  solid : ∀ c ∈ cells, c ≠ .dead ∧ noBr c = true
  size : σ'.length = σ.length
  shape : ∀ (d : Nat) (sh : Shape), (∃ m, σ'[d]? = some (.c sh m)) ↔ ∃ m, σ[d]? = some (.c sh m)

theorem firm_list {X X' : Ctx} {σ : St} (H : ∀ k p v c, Firm σ k p c → CVRel X k p v c → CVRel X' k p v c) {d : Nat} (hd : ∀ p, (cellAt σ d p).isOw = false) : ∀ {j : Nat} {vs : List Value} {l : List CV}, (∀ c ∈ l, noBr c = true) → CellsRel X d j vs l → CellsRel X' d j vs l
  | j, [], [], hb, .nil _ => .nil j
  | j, v :: vs, c :: l, hb, .cons _ _ _ _ _ h t => by
    refine .cons j v c vs l (H d j v c ?_ h) (firm_list H hd (fun c hc => hb c (by simp [hc])) t)
    cases c with
    | sh f p => trivial
    | dead => trivial
    | ow f es rows => exact hd j
    | br a b kd lo f es rows => have := hb _ (List.mem_cons_self ..); simp [noBr] at this

def readRes (tmps : Array Value) : ResultVar → Sem Value
  | .tmp t => pure (tmps.getD t undef)
  | .cell a t => do loadVar t (← asAddr (tmps.getD a undef))

theorem results_run {P : Program} {w : World} {tmps : Array Value} : ∀ {l : List ResultVar} {vals : List Value}, l.length = vals.length → (∀ (i : Nat) (x : ResultVar) (v : Value), l[i]? = some x → vals[i]? = some v → (readRes tmps x).run P w = .ok v w) →
    (l.mapM (readRes tmps)).run P w = .ok vals w
  | [], [], _, _ => rfl
  | [], _ :: _, h, _ => by simp at h
  | _ :: _, [], h, _ => by simp at h
  | x :: l, v :: vals, h, H => by
    have h1 := H 0 x v rfl rfl
    have h2 := results_run (P := P) (w := w) (tmps := tmps) (l := l) (vals := vals) (by simpa using h) fun i x v hx hv => H (i + 1) x v (by simpa using hx) (by simpa using hv)
    simp only [List.mapM_cons, Sem.run_bind, h1, Result.andThen_ok, h2, Sem.run_pure]

theorem leave_ok {P : Program} {T : Tys} (hT : TOk P T) {a : Act} {gv : List Value} {N : Nat} (hN : N = a.tmps.size) {d : Nat} : ∀ {rs : List ResultVar} {X : Ctx} {σ σ' : St} {E : Nat → Nat → Prop} {j : Nat} {shapes : List (Bool × Nat)} {cells : List CV}, Good X (All a gv) σ E → σ.length ≤ d →
    (∀ p, j ≤ p → Free X d p) → leaveRes T N d j rs σ = some (σ', shapes, cells) → ∃ X' vals fs, Left P X X' (All a gv) σ σ' E d j vals fs shapes cells ∧ rs.length = vals.length ∧
      ∀ (i : Nat) (x : ResultVar) (v : Value), rs[i]? = some x → vals[i]? = some v → (readRes a.tmps x).run P X.w = .ok v X.w
  | [], X, σ, σ', E, j, shapes, cells, hg, hd, hf, h => by
    simp only [leaveRes] at h
    injection h with h; injection h with h1 h; injection h with h2 h3; subst h1; subst h2; subst h3
    refine ⟨X, [], [], ⟨.refl X, rfl, hg.weak fun _ _ => .inl, .nil j, ⟨rfl, rfl⟩, fun i v a n f hv => by simp at hv, fun _ _ _ h => h, fun _ _ h => h, fun _ _ _ _ _ h => h, fun p c hc => by simp at hc, fun c hc => by simp at hc, rfl, fun _ _ => Iff.rfl⟩, rfl, fun i x v hx => by simp at hx⟩
  | x :: rs, X, σ, σ', E, j, shapes, cells, hg, hd, hf, h => by
    simp only [leaveRes] at h
    obtain ⟨y, hy, h⟩ := some_bind h
    obtain ⟨⟨ag, cs⟩, hr, h⟩ := some_bind h
    obtain ⟨⟨σ1, l'⟩, hp, h⟩ := some_bind h
    obtain ⟨⟨σ2, shapes2, cells2⟩, hrest, h⟩ := some_map h
    injection h with h1 h; injection h with h2 h3; subst h1; subst h2; subst h3
    simp only at hp hrest
    -- the value
    have hval : ∃ v, (readRes a.tmps x).run P X.w = .ok v X.w ∧ OSV X v y := by
      cases x with
      | tmp t =>
        simp only [resultSV] at hy
        injection hy with hy
        exact ⟨_, rfl, by rw [← hy]; exact opd_sv hg hN (.tmp t)⟩
      | cell b t =>
        simp only [resultSV] at hy
        have hb := opd_sv (T := T) (ty := 0) hg hN (.tmp b)
        obtain ⟨v, hv, ho⟩ := load_sv (P := P) hT hg hb hy
        refine ⟨v, ?_, ho⟩
        unfold readRes
        simp only [Instr.loadAt, Sem.run_bind, Act.eval] at hv
        simp only [Sem.run_bind]
        cases hu : a.tmps.getD b undef with
        | pointer ad =>
          cases ad with
          | none => rw [hu] at hv; simp [Instr.sureAddr, stuck] at hv
          | some ad =>
            rw [hu] at hv
            simp only [Instr.sureAddr, asAddr, Sem.run_pure, Result.andThen_ok] at hv ⊢
            exact hv
        | _ => rw [hu] at hv; simp [Instr.sureAddr, stuck] at hv
    obtain ⟨v, hrun, hov⟩ := hval
    have hflat : ∃ us, VCells X us cs ∧ us.length = cs.length ∧ ((ag = true ∧ ∃ c : Array Value, v = .agg c ∧ us = c.toList) ∨ (ag = false ∧ us = [v] ∧ ∀ c, v ≠ .agg c)) := by
      unfold resOf at hr
      split at hr
      · rename_i l
        injection hr with hr; injection hr with e1 e2; subst e1; subst e2
        obtain ⟨us, hf, hc⟩ := osv_cells hov (by simp)
        cases hf with
        | one _ hn => exact ⟨[v], hc, hc.length, .inr ⟨rfl, rfl, hn⟩⟩
      · rename_i l
        injection hr with hr; injection hr with e1 e2; subst e1; subst e2
        obtain ⟨us, hf, hc⟩ := osv_cells hov (by simp)
        cases hf with
        | agg c => exact ⟨c.toList, hc, hc.length, .inl ⟨rfl, c, rfl, rfl⟩⟩
      · simp at hr
    obtain ⟨us, hc, hul, hsh⟩ := hflat
    have hout : ∀ {σ : St} p, σ.length ≤ d → (cellAt σ d p).isOw = false := fun {σ} p hd => by
      rw [cellAt_none fun sh l e => by rw [List.getElem?_eq_none hd] at e; simp at e]; rfl
    obtain ⟨X1, q⟩ := persistAll_good (All a gv) d hg (weaken_cells (N := N) hc).ocells (fun p h1 h2 => ⟨hf p h1, hout p hd⟩) hp
    rw [List.length_map] at q
    obtain ⟨X2, vals, fs, L, hlen, hvals⟩ := leave_ok hT hN (rs := rs) (j := j + cs.length) q.good (by rw [q.size]; exact hd) (fun p hp => q.free d p (by omega) (hf p (by omega))) hrest
    have hsol := cells_one hp
    have hl' : l'.length = cs.length := q.len
    refine ⟨X2, v :: vals, us :: fs, ⟨q.goes.trans L.goes, L.w.trans q.w, L.good.weak ?_, ?_, ⟨by simp [L.nums.1], by simp [L.nums.2]⟩, ?_, ?_, fun s p h => L.noOw s p (q.noOw s p h), fun k p u c hfm h => L.firm k p u c (hfm.keep q.noOw) (q.firm k p u c hfm h), ?_, ?_, L.size.trans q.size, fun d sh => (L.shape d sh).trans (persistAll_shape hp d sh)⟩, by simp [hlen], ?_⟩
    · rintro b c ((h1 | ⟨h1, h2, h3⟩) | ⟨h1, h2, h3⟩)
      · exact .inl h1
      · exact .inr ⟨h1, h2, by simp [hl']; omega⟩
      · exact .inr ⟨h1, by omega, by simp [hl']; omega⟩
    · simp only [List.flatten_cons]
      refine CellsRel.append (firm_list L.firm (fun p => hout p (by rw [q.size]; exact hd)) (fun c hc => (hsol c hc).2) q.cells) ?_
      rw [hl']
      exact L.rel
    · intro i u b n f hv hs hfi
      cases i with
      | zero =>
        simp at hv hs hfi
        obtain ⟨rfl, rfl⟩ := hs
        subst hv; subst hfi
        exact ⟨hul, hsh⟩
      | succ i => exact L.flat i u b n f (by simpa using hv) (by simpa using hs) (by simpa using hfi)
    · intro s p hne hfr
      simp only [List.length_append, hl'] at hne
      refine L.free s p (by omega) (q.free s p (by omega) hfr)
    · intro p c hpc hno
      by_cases hlt : p < l'.length
      · rw [List.getElem?_append_left hlt] at hpc
        refine L.free d (j + p) (by omega) (q.tag p c hpc hno)
      · rw [List.getElem?_append_right (Nat.le_of_not_lt hlt)] at hpc
        have := L.tag _ c hpc hno
        rw [show j + cs.length + (p - l'.length) = j + p from by omega] at this
        exact this
    · intro c hc
      rcases List.mem_append.1 hc with h1 | h1
      · exact hsol c h1
      · exact L.solid c h1
    · intro i y u hx hv
      cases i with
      | zero =>
        simp at hx hv
        subst hx; subst hv
        exact hrun
      | succ i =>
        have := hvals i y u (by simpa using hx) (by simpa using hv)
        rw [q.w] at this
        exact this

end Go.Proofs.YticgilhndadkiaaGreatDoor.R

/- The evaluator's calls are the machine's. -/
set_option linter.unusedVariables false
set_option linter.unusedSimpArgs false
namespace Go.Proofs.YticgilhndadkiaaGreatDoor.R
open Go

/-- What the called function leaves: the answer's slot is 0, the variables' are 1 and on. -/
def Ctx.ret (X : Ctx) (d N m : Nat) : Ctx :=
  { X with own := fun b => match X.own b with
      | some (s, p, t) => if s = d then some (0, p, t) else if N ≤ s ∧ s < N + m then some (s - N + 1, p, t) else none
      | none => none }

theorem ret_cases {X : Ctx} {d N m b : Nat} {t : Own} (h : (X.ret d N m).own b = some t) : (∃ p u, X.own b = some (d, p, u) ∧ t = (0, p, u)) ∨ ∃ s p u, X.own b = some (s, p, u) ∧ s ≠ d ∧ N ≤ s ∧ s < N + m ∧ t = (s - N + 1, p, u) := by
  simp only [Ctx.ret] at h
  cases e : X.own b with
  | none => simp [e] at h
  | some x =>
    obtain ⟨s, p, u⟩ := x
    simp only [e] at h
    split at h
    · rename_i h1; subst h1; injection h with h; exact .inl ⟨p, u, rfl, h.symm⟩
    · rename_i h1
      split at h
      · rename_i h2; injection h with h; exact .inr ⟨s, p, u, rfl, h1, h2.1, h2.2, h.symm⟩
      · simp at h

theorem ret_goes (X : Ctx) (d N m : Nat) : Goes X (X.ret d N m) :=
  ⟨rfl, rfl, rfl, Nat.le_refl _, fun _ _ _ => rfl, rfl, fun _ h => h, fun _ h => .inl h, fun b h => .inl fun e => h (by simp [Ctx.ret, e])⟩

theorem ren_cell {X X' : Ctx} (hw : X'.w = X.w) (hV : ∀ f b, X.V f b → X'.V f b) {k s j : Nat} (ht : ∀ b p u, X.own b = some (k, p, u) → X'.own b = some (s, p, u)) {v : Value} {c : CV} (hb : noBr c = true) (h : CVRel X k j v c) : CVRel X' s j v c := by
  cases h with
  | sh f p v h => exact .sh f p v (h.mono fun b hb => ⟨hV f b hb, by rw [hw]⟩)
  | ow0 f es a => exact .ow0 f es a
  | ow f es rows v blk off cap c elem fr h => exact .ow f es rows v blk off cap c elem fr ⟨h.val, h.le, ht _ _ _ h.own, by rw [hw]; exact h.cells, h.fits, h.loose, h.reads.mono fun b hb => ⟨hV f b hb, by rw [hw]⟩⟩
  | br0 => simp [noBr] at hb
  | br => simp [noBr] at hb
  | brv => simp [noBr] at hb
  | dead v => exact .dead v
theorem ren_cells {X X' : Ctx} (hw : X'.w = X.w) (hV : ∀ f b, X.V f b → X'.V f b) {k s : Nat} (ht : ∀ b p u, X.own b = some (k, p, u) → X'.own b = some (s, p, u)) : ∀ {j : Nat} {vs : List Value} {l : List CV}, (∀ c ∈ l, noBr c = true) → CellsRel X k j vs l → CellsRel X' s j vs l
  | j, [], [], hb, .nil _ => .nil j
  | j, v :: vs, c :: l, hb, .cons _ _ _ _ _ h t => .cons j v c vs l (ren_cell hw hV ht (hb c (by simp)) h) (ren_cells hw hV ht (fun c hc => hb c (by simp [hc])) t)

theorem ret_good {X : Ctx} {vs : List Value} {σ : St} {E : Nat → Nat → Prop} (hg : Good X vs σ E) {d N : Nat} {gv : List Value} (hd : σ.length = d) (hv : vs.drop N = gv) (hNl : N + gv.length = σ.length) {cells : List CV} (hE : ∀ a b, E a b → a = d ∧ b < cells.length) {v : Value} {sh : Shape} {us : List Value} (hfl : Flat sh v us)
    (hc : CellsRel X d 0 us cells) (hsol : ∀ c ∈ cells, noBr c = true) (htag : ∀ (p : Nat) (c : CV), cells[p]? = some c → c.isOw = false → Free X d p) {ms : List (List CV)} (hm : boxesAt σ ((List.range gv.length).map (N + ·)) = some ms) (hms : ms.all (·.all noBr) = true) :
    Good (X.ret d N gv.length) (v :: gv) (.c sh cells :: ms.map (.c .box)) NoE := by
  obtain ⟨hl, hget⟩ := boxesAt_get hm
  simp only [List.length_map, List.length_range] at hl
  have hslot : ∀ (g : Nat) (b : List CV), ms[g]? = some b → σ[N + g]? = some (.c .box b) := fun g b h => by
    have hlt : g < gv.length := by rw [← hl]; exact (List.getElem?_eq_some_iff.1 h).1
    exact hget g (N + g) b (by simp [hlt]) h
  have hVV : ∀ f b, X.V f b → (X.ret d N gv.length).V f b := fun f b h => h
  refine ⟨⟨fun b t h => ?_, fun b b' s p base tip base' tip' h h' => ?_, hg.inv.vs, hg.inv.va⟩, ⟨by simp [hl], fun k u sv hu hs => ?_⟩, fun b s p base tip h => ?_, fun b s base tip h => ?_⟩
  · rcases ret_cases h with ⟨p, u, h1, _⟩ | ⟨s, p, u, h1, _⟩ <;> exact hg.inv.own b _ h1
  · rcases ret_cases h with ⟨p1, u1, h1, e1⟩ | ⟨s1, p1, u1, h1, n1, n2, n3, e1⟩
    · rcases ret_cases h' with ⟨p2, u2, h2, e2⟩ | ⟨s2, p2, u2, h2, m1, m2, m3, e2⟩
      · injection e1 with _ e1; injection e1 with e1 _; injection e2 with _ e2; injection e2 with e2 _
        subst e1; subst e2
        exact hg.inv.one _ _ _ _ _ _ _ _ h1 h2
      · injection e1 with e1 _; injection e2 with e2 _; omega
    · rcases ret_cases h' with ⟨p2, u2, h2, e2⟩ | ⟨s2, p2, u2, h2, m1, m2, m3, e2⟩
      · injection e1 with e1 _; injection e2 with e2 _; omega
      · injection e1 with e1 e3; injection e3 with e3 _; injection e2 with e2 e4; injection e4 with e4 _
        have : s1 = s2 := by omega
        subst this; subst e3; subst e4
        exact hg.inv.one _ _ _ _ _ _ _ _ h1 h2
  · cases k with
    | zero =>
      simp at hu hs
      subst hu; subst hs
      exact .c sh _ us cells hfl (ren_cells (X := X) (X' := X.ret d N gv.length) rfl hVV (fun b p u h => by simp [Ctx.ret, h]) hsol hc)
    | succ k =>
      simp only [List.getElem?_cons_succ] at hu hs
      rw [List.getElem?_map] at hs
      obtain ⟨b, hb, rfl⟩ := some_map hs
      have hlt : k < gv.length := by rw [← hl]; exact (List.getElem?_eq_some_iff.1 hb).1
      have hu' : vs[N + k]? = some u := by rw [← hu, ← hv, List.getElem?_drop]
      obtain ⟨blk, base, tip, c, elem, fr, e1, ho, hbk, hfr, hcr⟩ := box_inv (hg.frame.2 (N + k) u _ hu' (hslot k b hb))
      subst e1
      have hown : ∀ b p u, X.own b = some (N + k, p, u) → (X.ret d N gv.length).own b = some (k + 1, p, u) := fun b p u h => by
        simp only [Ctx.ret, h]
        rw [if_neg (by omega), if_pos (by omega)]
        congr 2; omega
      exact .box blk base tip c elem fr b (hown _ _ _ ho) hbk hfr (ren_cells (X := X) (X' := X.ret d N gv.length) rfl hVV hown (List.all_eq_true.1 (List.all_eq_true.1 hms b (List.mem_of_getElem? hb))) hcr)
  · right
    rcases ret_cases h with ⟨p1, u1, h1, e1⟩ | ⟨s1, p1, u1, h1, n1, n2, n3, e1⟩
    · injection e1 with e1 e3; injection e3 with e3 _
      subst e1; subst e3
      rw [cellAt_of (sh := sh) (l := cells) rfl]
      have hp : p < cells.length := by
        rcases hg.tags.cell b d p u1.1 u1.2 h1 with h2 | h2
        · exact (hE _ _ h2).2
        · rw [cellAt_none fun sh l e => by rw [List.getElem?_eq_none (by omega)] at e; simp at e] at h2
          simp [CV.isOw] at h2
      have e2 : cells[p]? = some cells[p] := List.getElem?_eq_getElem hp
      rw [List.getD_eq_getElem?_getD, e2]
      cases hh : (cells[p]).isOw with
      | true => exact hh
      | false => exact absurd h1 (htag p _ e2 hh b u1.1 u1.2)
    · injection e1 with e1 e3; injection e3 with e3 _
      subst e1; subst e3
      have hlt : s1 - N < ms.length := by omega
      have e2 : ms[s1 - N]? = some ms[s1 - N] := List.getElem?_eq_getElem hlt
      have h3 := hslot _ _ e2
      rw [show N + (s1 - N) = s1 from by omega] at h3
      have h2 := (hg.tags.cell b s1 p u1.1 u1.2 h1).resolve_left fun e => n1 (hE _ _ e).1
      rw [cellAt_of h3] at h2
      rw [cellAt_of (sh := .box) (l := ms[s1 - N]) (by simp [e2])]
      exact h2
  · rcases ret_cases h with ⟨p1, u1, h1, e1⟩ | ⟨s1, p1, u1, h1, n1, n2, n3, e1⟩
    · injection e1 with e1 e3; injection e3 with e3 _
      subst e1; subst e3
      obtain ⟨l, h2⟩ := hg.tags.box b d u1.1 u1.2 h1
      rw [List.getElem?_eq_none (by omega)] at h2; simp at h2
    · injection e1 with e1 e3; injection e3 with e3 _
      subst e1; subst e3
      have hlt : s1 - N < ms.length := by omega
      exact ⟨ms[s1 - N], by simp [List.getElem?_eq_getElem hlt]⟩

/-- The functions are the program's. -/
def EnvOk (P : Program) (E : Env) : Prop := ∀ f fn, E.fns f = some fn → P.funcs[f]? = some fn ∧ (fn.name == "runtime.NumGoroutine") = false

/-- What is told by its answers answers so. -/
def OrcOk (P : Program) (E : Env) : Prop := ∀ f g call, E.orc f = some g → CallOk P call → ∀ args bs r, g call args bs = some r → ∃ N, args.length ≤ N ∧
  ∀ (X : Ctx) (argv gv : List Value), argv.length = args.length → Good X (argv ++ List.replicate (N - args.length) undef ++ gv) (args.map (shiftSV N) ++ List.replicate (N - args.length) .undef ++ bs.map (.c .box)) NoE →
    Lands P f argv.toArray X.w fun v w' => ∃ X', X'.w = w' ∧ Goes X X' ∧ Good X' (v :: gv) (r.res :: r.boxes.map (.c .box)) NoE

theorem run_enter {P : Program} {f : FuncId} {fn : Func} (hf : P.funcs[f]? = some fn) (hn : (fn.name == "runtime.NumGoroutine") = false) {c : Code} (hb : fn.body = some c) (args : Array Value) (w : World) : (callFunc f args).run P w = .ok (.enter f args) w := by
  have hn' : fn.name ≠ "runtime.NumGoroutine" := by simpa using hn
  simp [callFunc, hf, hn', hb]

theorem flat_of {vals : List Value} {fs : List (List Value)} {shapes : List (Bool × Nat)} (hn : vals.length = shapes.length ∧ fs.length = shapes.length)
    (h : ∀ (i : Nat) (v : Value) (a : Bool) (n : Nat) (f : List Value), vals[i]? = some v → shapes[i]? = some (a, n) → fs[i]? = some f → f.length = n ∧ ((a = true ∧ ∃ cs : Array Value, v = .agg cs ∧ f = cs.toList) ∨ (a = false ∧ f = [v] ∧ ∀ cs, v ≠ .agg cs))) :
    Flat (shapeOf shapes) (if h : vals.toArray.size = 1 then vals.toArray[0] else .tuple vals.toArray) fs.flatten := by
  by_cases h1 : shapes.length = 1
  · obtain ⟨⟨a, n⟩, rfl⟩ := List.length_eq_one_iff.1 h1
    obtain ⟨v, rfl⟩ := List.length_eq_one_iff.1 (hn.1.trans h1)
    obtain ⟨f, rfl⟩ := List.length_eq_one_iff.1 (hn.2.trans h1)
    obtain ⟨h2, h3⟩ := h 0 v a n f rfl rfl rfl
    simp only [List.flatten_cons, List.flatten_nil, List.append_nil]
    rcases h3 with ⟨rfl, cs, rfl, rfl⟩ | ⟨rfl, rfl, hna⟩
    · exact .agg cs
    · exact .one v hna
  · have hs : shapeOf shapes = .tup shapes := by
      match shapes, h1 with
      | [], _ => rfl
      | [x], h1 => exact absurd rfl h1
      | x :: y :: l, _ =>
        obtain ⟨a, n⟩ := x
        cases a <;> rfl
    rw [hs, dif_neg (by simp; omega)]
    exact .tup shapes vals.toArray fs hn.2 (by simpa using hn.1) fun i v a n f hv => h i v a n f (by simpa using hv)

/-- A call's slots lead to this answer. -/
def Leaves (T : Tys) (fn : Func) (nb : Nat) (σ1 : St) (r : Ret) : Prop :=
  ∃ q σ m, leaveRes T fn.ntmps σ1.length 0 fn.results.toList σ1 = some q ∧ settles ((List.range nb).map (fn.ntmps + ·)) q.1 = some σ ∧ boxesAt σ ((List.range nb).map (fn.ntmps + ·)) = some m ∧ m.all (·.all noBr) = true ∧ r = ⟨.c (shapeOf q.2.1) q.2.2, m⟩

/-- A function answers so, if its code comes to slots that lead to the answer. -/
theorem body_ok {P : Program} {T : Tys} (hT : TOk P T) {f : FuncId} {fn : Func} {code : Code} (hfn : P.funcs[f]? = some fn) (hname : (fn.name == "runtime.NumGoroutine") = false) (hb : fn.body = some code) {args : List SV} {bs : List (List CV)} {r : Ret} (hlen : args.length ≤ fn.ntmps)
    (hcode : ∀ (gv : List Value) (X : Ctx) (a : Act) (Q : Exit → Act → World → Prop), Good X (All a gv) (args.map (shiftSV fn.ntmps) ++ List.replicate (fn.ntmps - args.length) .undef ++ bs.map (.c .box)) NoE → fn.ntmps = a.tmps.size →
      (∀ ex σ1 a' X', (ex = Ex.normal ∨ ex = Ex.ret) → Leaves T fn bs.length σ1 r → Goes X X' → Good X' (All a' gv) σ1 NoE → a'.tmps.size = fn.ntmps → a'.defers = a.defers → Q (exOf ex) a' X'.w) → code.wp P Q a X.w) :
    ∃ N, args.length ≤ N ∧ ∀ (X : Ctx) (argv gv : List Value), argv.length = args.length → Good X (argv ++ List.replicate (N - args.length) undef ++ gv) (args.map (shiftSV N) ++ List.replicate (N - args.length) .undef ++ bs.map (.c .box)) NoE →
      Lands P f argv.toArray X.w fun v w' => ∃ X', X'.w = w' ∧ Goes X X' ∧ Good X' (v :: gv) (r.res :: r.boxes.map (.c .box)) NoE := by
    refine ⟨fn.ntmps, hlen, fun X argv gv hargv hgood => ?_⟩
    have hgl : gv.length = bs.length := by
      have := hgood.frame.1
      simp only [List.length_append, List.length_replicate, List.length_map] at this
      omega
    unfold Lands
    rw [run_enter hfn hname hb]
    simp only
    refine calls_of_wp hfn hb ?_
    let a0 : Act := { tmps := argv.toArray ++ Array.replicate (fn.ntmps - argv.toArray.size) undef, defers := [] }
    have hall : All a0 gv = argv ++ List.replicate (fn.ntmps - args.length) undef ++ gv := by
      simp [All, a0, hargv]
    have hsz : fn.ntmps = a0.tmps.size := by simp [a0]; omega
    rw [← hall] at hgood
    have hfin : ∀ (σ1 : St) a' X1, Goes X X1 → Good X1 (All a' gv) σ1 NoE → a'.tmps.size = fn.ntmps → (∀ {q}, leaveRes T fn.ntmps σ1.length 0 fn.results.toList σ1 = some q → ∀ {σ}, settles ((List.range bs.length).map (fn.ntmps + ·)) q.1 = some σ → ∀ {m}, boxesAt σ ((List.range bs.length).map (fn.ntmps + ·)) = some m → m.all (·.all noBr) = true →
        ∃ v X', (results fn a'.tmps).run P X1.w = .ok v X'.w ∧ Goes X X' ∧ Good X' (v :: gv) (.c (shapeOf q.2.1) q.2.2 :: m.map (.c .box)) NoE ∧ X'.w = X1.w) := fun σ1 a' X1 G hg1 hs1 {q} hq {σ} hσ {m} hm' hnb => by
      obtain ⟨σ2, shapes, cells⟩ := q
      have hlen1 : σ1.length = fn.ntmps + gv.length := by
        rw [← hg1.frame.1]; unfold All; rw [List.length_append, Array.length_toList, hs1]
      obtain ⟨X2, vals, fs, L, hvl, hvals⟩ := leave_ok (P := P) hT hs1.symm (d := σ1.length) hg1 (Nat.le_refl _) (fun p _ b base tip e => by
        rcases hg1.tags.cell _ _ _ _ _ e with h2 | h2
        · exact h2
        · rw [cellAt_none fun sh l e => by rw [List.getElem?_eq_none (Nat.le_refl _)] at e; simp at e] at h2
          simp [CV.isOw] at h2) hq
      obtain ⟨X3, k3⟩ := settles_good (All a' gv) L.good hσ
      have hrun : (results fn a'.tmps).run P X1.w = .ok (if h : vals.toArray.size = 1 then vals.toArray[0] else .tuple vals.toArray) X1.w := by
        let g : ResultVar → Value := fun x => match (readRes a'.tmps x).run P X1.w with
          | .ok v _ => v
          | _ => undef
        have hg2 : ∀ (i : Nat) (x : ResultVar) (v : Value), fn.results.toList[i]? = some x → vals[i]? = some v → g x = v := fun i x v hx hv => by
          simp only [g, hvals i x v hx hv]
        have hmap : fn.results.map g = vals.toArray := by
          apply Array.ext'
          simp only [Array.toList_map]
          apply List.ext_getElem?
          intro i
          rw [List.getElem?_map]
          cases hx : fn.results.toList[i]? with
          | none =>
            have : vals.length ≤ i := by rw [← hvl]; exact List.getElem?_eq_none_iff.1 hx
            rw [List.getElem?_eq_none this]; rfl
          | some x =>
            have hlt : i < vals.length := by rw [← hvl]; exact (List.getElem?_eq_some_iff.1 hx).1
            have e1 : vals[i]? = some vals[i] := List.getElem?_eq_getElem hlt
            rw [e1, Option.map_some, hg2 i x _ hx e1]
        have hgx : ∀ x ∈ fn.results, (readRes a'.tmps x).run P X1.w = .ok (g x) X1.w := fun x hx => by
          obtain ⟨i, hi, e1⟩ := List.getElem_of_mem (Array.mem_toList_iff.2 hx)
          have e2 : fn.results.toList[i]? = some x := by rw [List.getElem?_eq_getElem hi, e1]
          have hlt : i < vals.length := by rw [← hvl]; exact hi
          have e3 : vals[i]? = some vals[i] := List.getElem?_eq_getElem hlt
          rw [hvals i x _ e2 e3, hg2 i x _ e2 e3]
        simp only [results, Sem.run_bind]
        rw [run_amapM (g := g)]
        · rw [hmap]; rfl
        · intro x hx
          have := hgx x hx
          cases x <;> exact this
      have hcell : ∀ p, (cellAt σ2 σ1.length p).isOw = false := fun p => by
        rw [cellAt_none fun sh l e => by rw [List.getElem?_eq_none (by rw [L.size]; exact Nat.le_refl _)] at e; simp at e]; rfl
      have hgr := ret_good (N := fn.ntmps) (gv := gv) (d := σ1.length) k3.good (by rw [k3.size, L.size]) (by
        unfold All
        rw [List.drop_left' (by simpa using hs1)]) (by rw [k3.size, L.size]; exact hlen1.symm) (cells := cells) (fun a b e => by
          rcases e with e | ⟨e1, _, e2⟩
          · exact e.elim
          · exact ⟨e1, by omega⟩) (flat_of L.nums L.flat) (firm_list k3.firm hcell (fun c hc => (L.solid c hc).2) L.rel) (fun c hc => (L.solid c hc).2) (fun p c hc hno => k3.free _ _ (by have := L.tag p c hc hno; rwa [Nat.zero_add] at this)) (by rw [hgl]; exact hm') hnb
      refine ⟨_, _, ?_, (G.trans L.goes).trans (k3.goes.trans (ret_goes X3 _ _ _)), hgr, ?_⟩
      · rw [hrun]
        show _ = Result.ok _ X3.w
        rw [k3.w, L.w]
      · show X3.w = X1.w
        rw [k3.w, L.w]
    refine hcode gv X a0 _ hgood hsz fun ex σ1 a' X1 hex hL G hg1 hs1 hd1 => ?_
    obtain ⟨q, σ, m, hq, hσ, hm', hnb, rfl⟩ := hL
    obtain ⟨v, X', hr, G', hg', hw⟩ := hfin σ1 a' X1 G hg1 hs1 hq hσ hm' hnb
    rcases hex with rfl | rfl
    · exact ⟨hd1, v, by rw [hr, hw], X', hw, G', hg'⟩
    · exact ⟨hd1, v, by rw [hr, hw], X', hw, G', hg'⟩

theorem pcall_ok {P : Program} {E : Env} (hT : TOk P E.T) (hE : EnvOk P E) (hO : OrcOk P E) (hm : P.follows .mixedOrders = true) : ∀ n, CallOk P (pcall E n)
  | 0 => fun g args bs r h => by simp [pcall] at h
  | n + 1 => fun f args bs r h => by
    simp only [pcall] at h
    split at h
    · rename_i g hg
      exact hO f g _ hg (pcall_ok hT hE hO hm n) args bs r h
    obtain ⟨fn, hf, h⟩ := some_bind h
    obtain ⟨code, hb, h⟩ := some_bind h
    split at h
    case isFalse => simp at h
    rename_i hlen
    obtain ⟨⟨ex, σ1⟩, h1, h⟩ := some_bind h
    obtain ⟨hfn, hname⟩ := hE f fn hf
    refine body_ok hT hfn hname hb hlen fun gv X a Q hgood hsz hQ => ?_
    refine code_ok (P := P) (E := { E with D := E.dead f }) hT (pcall_ok hT hE hO hm n) hm (n := n) code hgood hsz h1 fun a' X1 G hg1 hs1 hd1 => ?_
    have key : ∀ {ex : Ex}, ((leaveRes E.T fn.ntmps σ1.length 0 fn.results.toList σ1).bind fun q =>
          (settles ((List.range bs.length).map (fn.ntmps + ·)) q.1).bind fun σ =>
          (boxesAt σ ((List.range bs.length).map (fn.ntmps + ·))).bind fun m =>
            if m.all (·.all noBr) then some (⟨.c (shapeOf q.2.1) q.2.2, m⟩ : Ret) else none) = some r → Leaves E.T fn bs.length σ1 r := fun {ex} h => by
      obtain ⟨q, hq, h⟩ := some_bind h
      obtain ⟨σ, hσ, h⟩ := some_bind h
      obtain ⟨m, hm', h⟩ := some_bind h
      split at h
      case isFalse => simp at h
      rename_i hnb
      injection h with h
      exact ⟨q, σ, m, hq, hσ, hm', hnb, h.symm⟩
    cases ex with
    | exit i => simp at h
    | normal => exact hQ .normal σ1 a' X1 (.inl rfl) (key (ex := .normal) h) G hg1 hs1 hd1
    | ret => exact hQ .ret σ1 a' X1 (.inr rfl) (key (ex := .ret) h) G hg1 hs1 hd1

end Go.Proofs.YticgilhndadkiaaGreatDoor.R
