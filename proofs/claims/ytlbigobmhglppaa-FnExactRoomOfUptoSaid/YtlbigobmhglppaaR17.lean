/- A call: all that the caller has behind it. -/
import Derived.Test.YtlbigobmhglppaaR16
set_option linter.unusedVariables false
set_option linter.unusedSimpArgs false
namespace Go.Proofs.Ytlbigobmhglppaa.R
open Go

theorem putBoxes_length : ∀ (gs : List Nat) (ms : List (List CV)) (σ : St), (putBoxes gs ms σ).length = σ.length
  | [], ms, σ => by cases ms <;> rfl
  | s :: l, [], σ => rfl
  | s :: l, b :: m, σ => by simp [putBoxes, putBoxes_length l m]
theorem putBoxes_out : ∀ {gs : List Nat} {ms : List (List CV)} {σ : St} {k : Nat}, gs.contains k = false → (putBoxes gs ms σ)[k]? = σ[k]?
  | [], ms, σ, k, h => by cases ms <;> rfl
  | s :: l, [], σ, k, h => rfl
  | s :: l, b :: m, σ, k, h => by
    simp only [List.contains_cons, Bool.or_eq_false_iff] at h
    simp only [putBoxes]
    rw [putBoxes_out h.2, List.getElem?_set_ne (by intro e; subst e; simp at h)]
theorem putBoxes_in : ∀ {gs : List Nat} {ms : List (List CV)} {σ : St} {g s : Nat} {m : List CV}, nodupB gs = true → gs[g]? = some s → ms[g]? = some m → s < σ.length → (putBoxes gs ms σ)[s]? = some (.c .box m)
  | [], ms, σ, g, s, m, hn, h1, h2, h3 => by simp at h1
  | x :: l, [], σ, g, s, m, hn, h1, h2, h3 => by simp at h2
  | x :: l, b :: ms, σ, g, s, m, hn, h1, h2, h3 => by
    simp only [nodupB, Bool.and_eq_true, Bool.not_eq_true'] at hn
    simp only [putBoxes]
    cases g with
    | zero =>
      simp at h1 h2; subst h1; subst h2
      rw [putBoxes_out hn.1, List.getElem?_set_self h3]
    | succ g => exact putBoxes_in hn.2 (by simpa using h1) (by simpa using h2) (by simpa using h3)

section
variable {X X' : Ctx} {gs : List Nat} {lent : List (Nat × Nat)} {fl any : Bool} {N : Nat} {d : Option Nat}

theorem home_V (G : Goes (X.callee gs lent fl N) X') {f : Bool} (ha : f = true → any = true) {b : Nat} (h : X'.V f b) : (X.back X' gs lent any d).V (f && fl) b := by
  rcases h with h | ⟨e, h⟩
  · exact .inl (.inl h)
  · rw [G.va] at h
    rcases h with h | ⟨e2, h⟩
    · exact .inl (.inr ⟨ha e, h⟩)
    · exact .inr ⟨by simp [e, e2], h⟩

/-- A cell that the called function leaves. -/
theorem home_cell (G : Goes (X.callee gs lent fl N) X') {k s : Nat} (ht : ∀ b p u, X'.own b = some (k, p, u) → (X.back X' gs lent any d).own b = some (s, p, u)) {j : Nat} {v : Value} {c : CV} (hb : noBr c = true) (ha : c.flag = true → any = true)
    (h : CVRel X' k j v c) : CVRel (X.back X' gs lent any d) s j v (c.reflag fl) := by
  cases h with
  | sh f p v h =>
    refine .sh (f && fl) p v ?_
    cases hs : p.scalar with
    | true => exact h.scalar hs
    | false => exact h.mono fun b hb => ⟨home_V G (fun e => ha (by simp [CV.flag, hs, e])) hb, rfl⟩
  | ow0 f es a => exact .ow0 _ es a
  | ow f es rows v blk off cap c elem fr h =>
    exact .ow _ es rows v blk off cap c elem fr ⟨h.val, h.le, ht _ _ _ h.own, h.cells, h.fits, h.loose, h.reads.mono fun b hb => ⟨home_V G (by simpa [CV.flag] using ha) hb, rfl⟩⟩
  | br0 => simp [noBr] at hb
  | br => simp [noBr] at hb
  | brv => simp [noBr] at hb
  | dead v => exact .dead v

theorem home_cells (G : Goes (X.callee gs lent fl N) X') {k s : Nat} (ht : ∀ b p u, X'.own b = some (k, p, u) → (X.back X' gs lent any d).own b = some (s, p, u)) : ∀ {j : Nat} {vs : List Value} {l : List CV}, l.all noBr = true → (l.any CV.flag = true → any = true) →
    CellsRel X' k j vs l → CellsRel (X.back X' gs lent any d) s j vs (l.map (CV.reflag fl))
  | j, [], [], hb, hf, .nil _ => .nil j
  | j, v :: vs, cv :: l, hb, hf, .cons _ _ _ _ _ h t => by
    simp only [List.all_cons, Bool.and_eq_true] at hb
    exact .cons j v _ vs _ (home_cell G ht hb.1 (fun e => hf (by simp [e])) h) (home_cells G ht hb.2 (fun e => hf (by simp only [List.any_cons, e, Bool.or_true])) t)

/-- A cell that the caller kept. -/
theorem kept_cell (hi : Inv X) (hl : lent.all (fun x => !gs.contains x.1) = true) (G : Goes (X.callee gs lent fl N) X') {k j : Nat} (hk : gs.contains k = false) {v : Value} {c : CV} (h : CVRel X k j v c) :
    CVRel (X.back X' gs lent any d) k j v (backC gs lent any k j c) := by
  have hV : ∀ f b, X.V f b → (X.back X' gs lent any d).V f b ∧ (X.back X' gs lent any d).w.heap[b]? = X.w.heap[b]? := fun f b h => back_V hi G f b h
  cases h with
  | sh f p v h => exact .sh f p v (h.mono (hV f))
  | ow0 f es a =>
    simp only [backC]
    split
    · exact .sh f _ _ (.s0 a 0 es)
    · exact .ow0 f es a
  | ow f es rows v blk off cap c elem fr h =>
    simp only [backC]
    split
    · rename_i hc
      simp only [Bool.and_eq_true] at hc
      have h1 := back_lent (d := d) hi hl G hc.1 hc.2 h.own f
      refine .sh f _ v ?_
      rw [h.val]
      exact .s blk off _ cap es c elem fr rows h1.1 (h1.2.trans h.cells) rfl h.le (h.reads.mono (hV f))
    · rename_i hc
      have h1 := back_keep (d := d) (any := any) hi G h.own hk (by rintro ⟨h2, _, h3⟩; exact hc (by simpa [h2] using h3))
      exact .ow f es rows v blk off cap c elem fr ⟨h.val, h.le, h1.1, h1.2.trans h.cells, h.fits, h.loose, h.reads.mono (hV f)⟩
  | br0 a b kd lo f es ad =>
    simp only [backC]
    split
    · exact .dead _
    · split
      · exact .sh f _ _ (.s0 ad 0 es)
      · exact .br0 a b kd lo f es ad
  | br a b kd lo f es rows v blk base tip cap c elem fr h =>
    simp only [backC]
    split
    · exact .dead _
    · rename_i hg
      have hg : gs.contains a = false := by simpa using hg
      split
      · rename_i hc
        simp only [Bool.and_eq_true] at hc
        have h1 := back_lent (d := d) hi hl G hc.1 hc.2 h.own f
        refine .sh f _ v ?_
        rw [h.val]
        exact .s blk _ _ cap es c elem fr rows h1.1 (h1.2.trans h.cells) rfl h.le (h.reads.mono (hV f))
      · rename_i hc
        have h1 := back_keep (d := d) (any := any) hi G h.own hg (by rintro ⟨h2, _, h3⟩; exact hc (by simpa [h2] using h3))
        exact .br a b kd lo f es rows v blk base tip cap c elem fr ⟨h.val, h.le, h1.1, h1.2.trans h.cells, h.fits, h.loose, h.tipLe, h.tip1, h.lo0, h.reads.mono (hV f)⟩
  | brv a b lo f es rows v h =>
    simp only [backC]
    split
    · exact .dead _
    · split
      · exact .sh f _ _ (h.mono (hV f))
      · exact .brv a b lo f es rows v (h.mono (hV f))
  | dead v => exact .dead v

theorem kept_cells (hi : Inv X) (hl : lent.all (fun x => !gs.contains x.1) = true) (G : Goes (X.callee gs lent fl N) X') {k : Nat} (hk : gs.contains k = false) : ∀ {j : Nat} {vs : List Value} {l : List CV}, CellsRel X k j vs l →
    CellsRel (X.back X' gs lent any d) k j vs (mapAll (backC gs lent any k) j l)
  | _, _, _, .nil j => .nil j
  | _, _, _, .cons j v cv vs l h t => .cons j v _ vs _ (kept_cell hi hl G hk h) (kept_cells hi hl G hk t)

/-- A slot that the caller kept. -/
theorem kept_sv (hi : Inv X) (hl : lent.all (fun x => !gs.contains x.1) = true) (G : Goes (X.callee gs lent fl N) X') (hbox : ∀ b base tip s, gs.contains s = true → X.own b = some (s, 0, base, tip) → ∃ base' tip', (X.back X' gs lent any d).own b = some (s, 0, base', tip'))
    {k : Nat} (hk : gs.contains k = false) {v : Value} {sv : SV} (h : SVRel X k v sv) :
    SVRel (X.back X' gs lent any d) k v (sv.mapC (backC gs lent any k) (backEp gs lent any)) := by
  have hV : ∀ f b, X.V f b → (X.back X' gs lent any d).V f b ∧ (X.back X' gs lent any d).w.heap[b]? = X.w.heap[b]? := fun f b h => back_V hi G f b h
  have hbp : ∀ b base tip s, X.own b = some (s, 0, base, tip) → ∃ base' tip', (X.back X' gs lent any d).own b = some (s, 0, base', tip') := fun b base tip s h => by
    cases hs : gs.contains s with
    | true => exact hbox b base tip s hs h
    | false => exact ⟨base, tip, (back_keep hi G h hs (by simp)).1⟩
  cases h with
  | undef v => exact .undef v
  | c sh v vs l hf hc => exact .c sh v vs _ hf (kept_cells hi hl G hk hc)
  | box blk base tip c elem fr l ho hb hfr hc =>
    have h1 := back_keep (d := d) (any := any) (lent := lent) hi G ho hk (by simp)
    exact .box blk base tip c elem fr _ h1.1 (h1.2.trans hb) hfr (kept_cells hi hl G hk hc)
  | bp s o blk base tip ho =>
    obtain ⟨base', tip', h1⟩ := hbp _ _ _ _ ho
    exact .bp s o blk base' tip' h1
  | ep s o kd fl' es i f row blk off base tip c elem fr ho he hlen hb hfr hr =>
    simp only [SV.mapC, backEp]
    by_cases hc : (gs.contains s || (any && lent.contains (s, o))) = true
    · rw [if_pos hc]; exact .undef _
    · rw [if_neg hc]
      simp only [Bool.or_eq_true, not_or] at hc
      have h1 := back_keep (d := d) (any := any) hi G ho (by simpa using hc.1) (by rintro ⟨h2, _, h3⟩; exact hc.2 (by simpa [h2] using h3))
      exact .ep s o kd fl' es i f row blk off base tip c elem fr h1.1 he hlen (h1.2.trans hb) hfr (hr.mono (hV fl'))
  | epv s o fl' es i f row blk off c elem fr hv hb hr =>
    simp only [SV.mapC, backEp]
    by_cases hc : (gs.contains s || (any && lent.contains (s, o))) = true
    · rw [if_pos hc]; exact .undef _
    · rw [if_neg hc]
      exact .epv s o fl' es i f row blk off c elem fr (hV _ _ hv).1 ((hV _ _ hv).2.trans hb) (hr.mono (hV fl'))
  | sp fl' row f blk off c elem fr hv hb hr => exact .sp fl' row f blk off c elem fr (hV _ _ hv).1 ((hV _ _ hv).2.trans hb) (hr.mono (hV fl'))
  | fn g caps cs hs hc =>
    refine .fn g caps cs hs fun i v s h1 h2 => ?_
    obtain ⟨blk, base, tip, e, ho⟩ := hc i v s h1 h2
    obtain ⟨base', tip', h3⟩ := hbp _ _ _ _ ho
    exact ⟨blk, base', tip', e, h3⟩

theorem flat_sh {sh : Shape} {v : Value} {vs : List Value} (h : Flat sh v vs) : sh ≠ .box := by cases h <;> simp

theorem home_sv (G : Goes (X.callee gs lent fl N) X') {v : Value} {sv : SV} (hr : isRes sv = true) (hb : sv.cells.all noBr = true) (ha : sv.cells.any CV.flag = true → any = true) {d' : Nat} (h : SVRel X' 0 v sv) : SVRel (X.back X' gs lent any (some d')) d' v (sv.reflag fl) := by
  cases sv with
  | c sh l =>
    cases h with
    | c _ _ vs _ hf hc => exact .c sh v vs _ hf (home_cells G (fun b p u h => back_res h) hb ha hc)
    | box => simp [isRes] at hr
  | _ => simp [isRes] at hr

theorem reflag_ow {c : CV} (h : c.isOw = true) : (c.reflag fl).isOw = true := by
  cases c <;> first | rfl | simp [CV.isOw] at h
theorem backC_ow {k j : Nat} {c : CV} (h : c.isOw = true) (hn : ¬(any = true ∧ lent.contains (k, j) = true)) : (backC gs lent any k j c).isOw = true := by
  cases c with
  | ow f es rows =>
    simp only [backC]
    rw [if_neg (by simpa using hn)]
    rfl
  | _ => simp [CV.isOw] at h
theorem backC_dead (k j : Nat) : backC gs lent any k j .dead = .dead := rfl

theorem svCell_reflag {sv : SV} {p : Nat} (h : (svCell sv p).isOw = true) : (svCell (sv.reflag fl) p).isOw = true := by
  cases sv with
  | c sh l =>
    simp only [svCell, SV.reflag, List.getD_eq_getElem?_getD, List.getElem?_map] at h ⊢
    cases e : l[p]? with
    | none => simp [e, CV.isOw] at h
    | some c => simp [e] at h ⊢; exact reflag_ow h
  | _ => simp [svCell, CV.isOw] at h

theorem getD_dead {l : List CV} {p : Nat} (h : (l.getD p .dead).isOw = true) : ∃ c, l[p]? = some c ∧ c.isOw = true := by
  rw [List.getD_eq_getElem?_getD] at h
  cases e : l[p]? with
  | none => simp [e, CV.isOw] at h
  | some c => exact ⟨c, rfl, by simpa [e] using h⟩

theorem box_inv {X : Ctx} {k : Nat} {v : Value} {l : List CV} (h : SVRel X k v (.c .box l)) : ∃ (blk base tip : Nat) (c : Array Value) (elem : TypeId) (fr : Nat × Nat), v = .pointer (some ⟨blk, 0, none⟩) ∧ X.own blk = some (k, 0, base, tip) ∧ X.w.heap[blk]? = some (.cells c elem fr) ∧ free fr c.size ∧ CellsRel X k 0 c.toList l := by
  cases h with
  | c _ _ _ _ hf _ => exact absurd rfl (flat_sh hf)
  | box blk base tip c elem fr l ho hb hfr hc => exact ⟨blk, base, tip, c, elem, fr, rfl, ho, hb, hfr, hc⟩

/-- The caller behind the call. -/
theorem back_good {vs : List Value} {σ : St} (hg : Good X vs σ NoE) {bs : List (List CV)} (hn : nodupB gs = true) (hbs : boxesAt σ gs = some bs) (hl : lent.all (fun x => !gs.contains x.1) = true)
    (hd : ∀ d', d = some d' → (∀ b p base tip, X.own b ≠ some (d', p, base, tip))) (hdg : ∀ d', d = some d' → gs.contains d' = false)
    {v : Value} {res : SV} {ms : List (List CV)} (hlen : ms.length = bs.length) (hms : ms.all (·.all noBr) = true) (hr : isRes res = true) (hrb : res.cells.all noBr = true) (ha : (res.cells.any CV.flag || ms.any (·.any CV.flag)) = true → any = true)
    (G : Goes (X.callee gs lent fl N) X') (hg' : Good X' (v :: gvals vs gs) (res :: ms.map (.c .box)) NoE) :
    Good (X.back X' gs lent any d) vs (putBoxes gs (ms.map (·.map (CV.reflag fl))) (back gs lent any σ)) (fun a _ => d = some a) ∧
    (∀ d', d = some d' → SVRel (X.back X' gs lent any d) d' v (res.reflag fl) ∧ (∀ b p base tip, (X.back X' gs lent any d).own b = some (d', p + 1, base, tip) → (svCell (res.reflag fl) p).isOw = true) ∧ (∀ b base tip, (X.back X' gs lent any d).own b ≠ some (d', 0, base, tip))) ∧
    (putBoxes gs (ms.map (·.map (CV.reflag fl))) (back gs lent any σ)).length = σ.length := by
  have hi := hg.inv
  obtain ⟨hbl, hbg⟩ := boxesAt_get hbs
  have hbl' : ∀ (g s : Nat), gs[g]? = some s → ∃ (b m : List CV), bs[g]? = some b ∧ ms[g]? = some m ∧ σ[s]? = some (SV.c .box b) := fun g s h => by
    have hlt : g < gs.length := by rw [List.getElem?_eq_some_iff] at h; exact h.1
    exact ⟨bs[g]'(by omega), ms[g]'(by omega), List.getElem?_eq_getElem _, List.getElem?_eq_getElem _, hbg _ _ _ h (List.getElem?_eq_getElem _)⟩
  -- the values of the variables
  have hval : ∀ (g s : Nat), gs[g]? = some s → ∃ v : Value, vs[s]? = some v ∧ (gvals vs gs)[g]? = some v := fun g s h => by
    obtain ⟨b, m, _, _, h3⟩ := hbl' g s h
    have hlt : s < σ.length := by rw [List.getElem?_eq_some_iff] at h3; exact h3.1
    have hlt' : s < vs.length := by rw [hg.frame.1]; exact hlt
    refine ⟨vs[s], List.getElem?_eq_getElem hlt', ?_⟩
    simp [gvals, h, List.getD_eq_getElem?_getD, List.getElem?_eq_getElem hlt']
  have hslot : ∀ (g s : Nat) (m : List CV) (v : Value), gs[g]? = some s → ms[g]? = some m → (gvals vs gs)[g]? = some v → SVRel X' (g + 1) v (.c .box m) := fun g s m v h1 h2 h3 =>
    hg'.frame.2 (g + 1) v _ (by simpa using h3) (by simp [h2])
  have hbox : ∀ b base tip s, gs.contains s = true → X.own b = some (s, 0, base, tip) → ∃ base' tip', (X.back X' gs lent any d).own b = some (s, 0, base', tip') := fun b base tip s hs ho => by
    obtain ⟨g, hg1⟩ := posOf_some hs
    have hg2 := posOf_get hg1
    obtain ⟨bb, m, h1, h2, h3⟩ := hbl' g s hg2
    obtain ⟨u, h4, h5⟩ := hval g s hg2
    have h6 := hslot g s m u hg2 h2 h5
    have h7 := hg.frame.2 s u _ h4 h3
    obtain ⟨blk, base1, tip1, c, elem, fr, e1, ho1, hb1, hfr1, hc1⟩ := box_inv h7
    obtain ⟨blk2, base2, tip2, c2, elem2, fr2, e2, ho2, hb2, hfr2, hc2⟩ := box_inv h6
    rw [e1] at e2
    injection e2 with e2; injection e2 with e2; injection e2 with e2
    subst e2
    have : b = blk := hi.one _ _ _ _ _ _ _ _ ho ho1
    subst this
    exact ⟨base2, tip2, back_box ho2 hg2⟩
  have hdd : ∀ d', d = some d' → gs.contains d' = false ∧ ∀ b p base tip, X.own b ≠ some (d', p, base, tip) := fun d' h => ⟨hdg d' h, hd d' h⟩
  have hsize : (putBoxes gs (ms.map (·.map (CV.reflag fl))) (back gs lent any σ)).length = σ.length := by rw [putBoxes_length]; exact mapSt_length _ _ _ _
  have hin : ∀ (g s : Nat) (m : List CV), gs[g]? = some s → ms[g]? = some m → (putBoxes gs (ms.map (·.map (CV.reflag fl))) (back gs lent any σ))[s]? = some (.c .box (m.map (CV.reflag fl))) := fun g s m h1 h2 => by
    obtain ⟨bb, m', _, _, h3⟩ := hbl' g s h1
    have hlt : s < σ.length := by rw [List.getElem?_eq_some_iff] at h3; exact h3.1
    exact putBoxes_in hn h1 (by simp [h2]) (by unfold back; rw [mapSt_length]; exact hlt)
  have hout : ∀ k, gs.contains k = false → (putBoxes gs (ms.map (·.map (CV.reflag fl))) (back gs lent any σ))[k]? = (σ[k]?).map fun x => x.mapC (backC gs lent any k) (backEp gs lent any) := fun k h => by
    rw [putBoxes_out h]; unfold back; rw [mapSt_get]; simp
  refine ⟨⟨back_inv hi hg'.inv hn hl G hdd, ⟨by rw [hsize]; exact hg.frame.1, ?_⟩, ?_, ?_⟩, ?_, hsize⟩
  · intro k u sv hu hs
    cases hk : gs.contains k with
    | true =>
      obtain ⟨g, hg1⟩ := posOf_some hk
      have hg2 := posOf_get hg1
      obtain ⟨bb, m, h1, h2, h3⟩ := hbl' g k hg2
      rw [hin g k m hg2 h2] at hs
      injection hs with hs; subst hs
      obtain ⟨u', h4, h5⟩ := hval g k hg2
      rw [h4] at hu; injection hu with hu; subst hu
      have h6 := hslot g k m u' hg2 h2 h5
      cases h6 with
      | c _ _ _ _ hf _ => exact absurd rfl (flat_sh hf)
      | box blk base2 tip2 c2 elem2 fr2 _ ho2 hb2 hfr2 hc2 =>
        refine .box blk base2 tip2 c2 elem2 fr2 _ (back_box ho2 hg2) hb2 hfr2 (home_cells G (fun b p u h => back_box h hg2) ?_ ?_ hc2)
        · exact List.all_eq_true.1 hms m (List.mem_of_getElem? h2)
        · exact fun e => ha (by rw [Bool.or_eq_true]; exact .inr (List.any_eq_true.2 ⟨m, List.mem_of_getElem? h2, e⟩))
    | false =>
      rw [hout k hk] at hs
      obtain ⟨x, h1, h2⟩ := some_map hs
      subst h2
      exact kept_sv hi hl G hbox hk (hg.frame.2 k u x hu h1)
  · intro b s p base tip h
    rcases back_cases h with ⟨p', u, d', h1, h2, h3⟩ | ⟨k, s1, p', u, h1, h2, h3⟩ | ⟨s1, p', u, h0, h1, h2, h3, h4⟩
    · injection h3 with h3 _
      subst h3
      exact .inl h2
    · injection h3 with h3 h4; injection h4 with h4 _
      subst h3; subst h4
      right
      obtain ⟨bb, m, _, h5, h6⟩ := hbl' k s h2
      rw [cellAt_of (hin k s m h2 h5)]
      have h7 := (hg'.tags.cell b (k + 1) p u.1 u.2 h1).resolve_left id
      rw [cellAt_of (sh := .box) (l := m) (by simp [h5])] at h7
      obtain ⟨c, h8, h9⟩ := getD_dead h7
      rw [List.getD_eq_getElem?_getD, List.getElem?_map, h8]
      exact reflag_ow h9
    · injection h4 with h4 h5; injection h5 with h5 _
      subst h4; subst h5
      right
      have h6 := (hg.tags.cell b s p u.1 u.2 h1).resolve_left id
      have h7 : cellAt (putBoxes gs (ms.map (·.map (CV.reflag fl))) (back gs lent any σ)) s p = cellAt (back gs lent any σ) s p := by
        unfold cellAt
        rw [List.getD_eq_getElem?_getD, List.getD_eq_getElem?_getD, putBoxes_out h2]
      rw [h7]
      unfold back
      rw [cellAt_map_ow _ _ σ s p (backC_dead s p) h6]
      exact backC_ow h6 (fun ⟨e1, e2⟩ => h3 ⟨e1, by simp, by simpa using e2⟩)
  · intro b s base tip h
    rcases back_cases h with ⟨p', u, d', h1, h2, h3⟩ | ⟨k, s1, p', u, h1, h2, h3⟩ | ⟨s1, p', u, h0, h1, h2, h3, h4⟩
    · injection h3 with h3 h4; injection h4 with h4 _
      subst h3; subst h4
      obtain ⟨l, h5⟩ := hg'.tags.box b 0 u.1 u.2 h1
      simp at h5
      subst h5
      simp [isRes] at hr
    · injection h3 with h3 h4
      subst h3
      obtain ⟨bb, m, _, h5, h6⟩ := hbl' k s h2
      exact ⟨_, hin k s m h2 h5⟩
    · injection h4 with h4 h5; injection h5 with h5 _
      subst h4; subst h5
      obtain ⟨l, h6⟩ := hg.tags.box b s u.1 u.2 h1
      exact ⟨_, by rw [hout s h2, h6]; rfl⟩
  · intro d' hd'
    subst hd'
    have hres := hg'.frame.2 0 v res rfl rfl
    refine ⟨home_sv G hr hrb (fun e => ha (by simp [e])) hres, ?_, ?_⟩
    · intro b p base tip h
      rcases back_cases h with ⟨p', u, d'', h1, h2, h3⟩ | ⟨k, s1, p', u, h1, h2, h3⟩ | ⟨s1, p', u, h0, h1, h2, h3, h4⟩
      · injection h3 with h3 h4; injection h4 with h4 _
        subst h4
        have h5 := (hg'.tags.cell b 0 p u.1 u.2 h1).resolve_left id
        refine svCell_reflag ?_
        cases res with
        | c sh l => exact h5
        | _ => simp [isRes] at hr
      · injection h3 with h3 _
        subst h3
        have := (hdd _ rfl).1
        rw [get_contains h2] at this; simp at this
      · injection h4 with h4 h5
        subst h4
        exact absurd h1 ((hdd _ rfl).2 _ _ _ _)
    · intro b base tip h
      rcases back_cases h with ⟨p', u, d'', h1, h2, h3⟩ | ⟨k, s1, p', u, h1, h2, h3⟩ | ⟨s1, p', u, h0, h1, h2, h3, h4⟩
      · injection h3 with h3 h4; injection h4 with h4 _
        subst h4
        obtain ⟨l, h5⟩ := hg'.tags.box b 0 u.1 u.2 h1
        simp at h5
        subst h5
        simp [isRes] at hr
      · injection h3 with h3 _
        subst h3
        have := (hdd _ rfl).1
        rw [get_contains h2] at this; simp at this
      · injection h4 with h4 h5
        subst h4
        exact absurd h1 ((hdd _ rfl).2 _ _ _ _)

end
end Go.Proofs.Ytlbigobmhglppaa.R
