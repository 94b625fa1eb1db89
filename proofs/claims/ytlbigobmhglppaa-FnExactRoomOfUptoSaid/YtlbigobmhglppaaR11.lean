/- The operations that do nothing but answer: what is made anew; conversions, cuts, literals. -/
import Derived.Test.YtlbigobmhglppaaR10
import Derived.Laws.IdiomStrings
import Derived.Laws.BytesArg
set_option linter.unusedVariables false
set_option linter.unusedSimpArgs false
namespace Go.Proofs.Ytlbigobmhglppaa.R
open Go

/-- w' is w with one block more. -/
structure Pushes (w w' : World) (o : Obj) : Prop where
  heap : w'.heap = w.heap.push o
  os : w'.os = w.os
  tape : w'.tape = w.tape
  output : w'.output = w.output

theorem Pushes.old {w w' : World} {o : Obj} (h : Pushes w w' o) {b : Nat} (hb : b < w.heap.size) : w'.heap[b]? = w.heap[b]? := by
  rw [h.heap, Array.getElem?_push, if_neg (by omega)]
theorem Pushes.new {w w' : World} {o : Obj} (h : Pushes w w' o) : w'.heap[w.heap.size]? = some o := by
  rw [h.heap, Array.getElem?_push, if_pos rfl]
theorem Pushes.size {w w' : World} {o : Obj} (h : Pushes w w' o) : w'.heap.size = w.heap.size + 1 := by
  rw [h.heap, Array.size_push]

def Ctx.made (X : Ctx) (w' : World) (t : Own) : Ctx := { X with w := w', own := fun b => if b = X.w.heap.size then some t else X.own b }

theorem made_goes {X : Ctx} {w' : World} {o : Obj} {t : Own} (h : Pushes X.w w' o) : Goes X (X.made w' t) where
  os := h.os
  tape := h.tape
  output := h.output
  size := by show X.w.heap.size ≤ w'.heap.size; rw [h.size]; omega
  keep := fun b hb _ => h.old hb
  va := rfl
  vs := fun _ h => h
  vs' := fun _ h => .inl h
  own' := fun b hb => by
    by_cases e : b = X.w.heap.size
    · exact .inr (by omega)
    · refine .inl ?_
      simpa [Ctx.made, e] using hb

theorem made_own {X : Ctx} {w' : World} {t : Own} (hi : Inv X) {b : Nat} {u : Own} (h : X.own b = some u) : (X.made w' t).own b = some u := by
  have := (hi.own b u h).1
  simp only [Ctx.made]
  rw [if_neg (by omega)]
  exact h

theorem made_mono {X : Ctx} {w' : World} {o : Obj} {t : Own} (hi : Inv X) (h : Pushes X.w w' o) : Mono X (X.made w' t) :=
  (made_goes h).mono hi fun b u hb => ⟨made_own hi hb, h.old (hi.own b u hb).1⟩

theorem made_inv {X : Ctx} {w' : World} {o : Obj} {d p base tip : Nat} (hi : Inv X) (h : Pushes X.w w' o) (hf : ∀ b base tip, X.own b ≠ some (d, p, base, tip)) : Inv (X.made w' (d, p, base, tip)) where
  own := fun b t hb => by
    simp only [Ctx.made] at hb ⊢
    by_cases e : b = X.w.heap.size
    · subst e
      exact ⟨by rw [h.size]; omega, fun hv => by have := hi.vs _ hv; omega, fun hv => by have := hi.va _ hv; omega⟩
    · rw [if_neg e] at hb
      have := hi.own b t hb
      exact ⟨by rw [h.size]; omega, this.2⟩
  one := fun b b' s q base1 tip1 base2 tip2 h1 h2 => by
    simp only [Ctx.made] at h1 h2
    by_cases e : b = X.w.heap.size
    · by_cases e' : b' = X.w.heap.size
      · omega
      · rw [if_pos e] at h1
        rw [if_neg e'] at h2
        injection h1 with h1; injection h1 with h1 h3; injection h3 with h3 _
        subst h1; subst h3
        exact absurd h2 (hf _ _ _)
    · rw [if_neg e] at h1
      by_cases e' : b' = X.w.heap.size
      · rw [if_pos e'] at h2
        injection h2 with h2; injection h2 with h2 h3; injection h3 with h3 _
        subst h2; subst h3
        exact absurd h1 (hf _ _ _)
      · rw [if_neg e'] at h2
        exact hi.one _ _ _ _ _ _ _ _ h1 h2
  vs := fun b hb => by show b < w'.heap.size; rw [h.size]; have := hi.vs b hb; omega
  va := fun b hb => by show b < w'.heap.size; rw [h.size]; have := hi.va b hb; omega

theorem made_new {X : Ctx} {w' : World} {d p base tip : Nat} {b : Nat} {t : Own} (h : (X.made w' (d, p, base, tip)).own b = some t) : X.own b = some t ∨ t = (d, p, base, tip) := by
  simp only [Ctx.made] at h
  by_cases e : b = X.w.heap.size
  · rw [if_pos e] at h; injection h with h; exact .inr h.symm
  · rw [if_neg e] at h; exact .inl h

/-- A slice that is made anew, in slot d. -/
theorem pure_made {X : Ctx} {w' : World} {c : Array Value} {elem : TypeId} {fr : Nat × Nat} (hi : Inv X) {d : Nat} (hf : Free X d 0) (h : Pushes X.w w' (.cells c elem fr)) (hfr : free fr c.size) {f : Bool} {es cap : Nat} {rows : List (List PV)} (hcap : rows.length ≤ cap)
    (hfit : cap * es ≤ c.size) (hr : ∀ X' : Ctx, Mono X X' → X'.w = w' → RdRows w'.heap (X'.V f) c 0 es rows) :
    PureRes X (X.made w' (d, 1, 0, rows.length)) d (.slice (some ⟨X.w.heap.size, 0, none⟩) rows.length cap) (.c .one [.ow f es rows]) where
  goes := made_goes h
  mono := made_mono hi h
  inv := made_inv hi h hf
  new := fun b t hb => (made_new hb).imp id fun e => by rw [e]
  rel := .c .one _ [_] _ (.one _ (fun cs e => nomatch e)) (.cons 0 _ _ _ _ (.ow f es rows _ X.w.heap.size 0 cap c elem fr ⟨rfl, hcap, by simp [Ctx.made], h.new, by simpa using hfit, hfr, hr _ (made_mono hi h) rfl⟩) (.nil 1))
  tag := fun b p base tip hb => (made_new hb).imp id fun e => by
    injection e with _ e; injection e with e _
    have : p = 0 := by omega
    subst this
    rfl
  tagb := fun b base tip hb => (made_new hb).imp id fun e => by
    injection e with _ e; injection e with e _
    omega

theorem bound_ok {P : Program} {X : Ctx} {x : Option SV} {xv : Option Value} (hx : ∀ v, xv = some v → ∃ s, x = some s ∧ OSV X v s) (hn : xv = none → x = none) {n d r : Nat} (h : bound x n d = some r) (code : BoundsCode) :
    (match xv with | some v => Instr.sliceBound v n code | none => pure d).run P X.w = .ok r X.w ∧ (xv.isSome = true → r ≤ n) ∧ (xv = none → r = d) := by
  cases xv with
  | none =>
    have := hn rfl
    subst this
    simp only [bound] at h
    injection h with h; subst h
    exact ⟨rfl, by simp, fun _ => rfl⟩
  | some v =>
    obtain ⟨s, rfl, hs⟩ := hx v rfl
    simp only [bound] at h
    cases e : s.int? with
    | none => simp [e] at h
    | some ki =>
      obtain ⟨k, i⟩ := ki
      simp only [e, Option.bind_some] at h
      have hv := int_sv hs e
      subst hv
      split at h
      · rename_i hb
        injection h with h; subst h
        refine ⟨?_, fun _ => by omega, by simp⟩
        simp only [Instr.sliceBound, asIntOf, Sem.run_bind, Sem.run_pure, Result.andThen_ok]
        rw [if_pos hb]
        rfl
      · simp at h

theorem bytes_rows : ∀ {rows : List (List PV)} {l : List UInt8}, bytes? rows = some l → ∃ xs : List Int, rows = xs.map (fun n => [.i .u8 n]) ∧ l = xs.map fun n => UInt8.ofNat n.toNat
  | [], l, h => by simp only [bytes?] at h; injection h with h; subst h; exact ⟨[], rfl, rfl⟩
  | r :: rs, l, h => by
    unfold bytes? at h
    split at h
    · injection h with h; subst h; rename_i e; cases e
    · rename_i n l' e
      cases e
      cases e2 : bytes? rs with
      | none => simp [e2] at h
      | some l2 =>
        simp [e2] at h; subst h
        obtain ⟨xs, h1, h2⟩ := bytes_rows e2
        exact ⟨n :: xs, by simp [h1], by simp [h2]⟩
    · simp at h

theorem rows_of {X : Ctx} {V : Nat → Prop} (s : ByteArray) (cap : Nat) : RdRows X.w.heap V (bytesRow s cap) 0 1 (rowsOf s) := by
  refine RdRows.mk fun i row hi => ?_
  simp only [rowsOf, List.getElem?_map] at hi
  cases e : s.data.toList[i]? with
  | none => simp [e] at hi
  | some b =>
    simp [e] at hi; subst hi
    refine ⟨rfl, .cons _ _ (.int .u8 (b.toNat : Int)) _ _ ?_ (.i .u8 _) (.nil _ _)⟩
    have hb : s.data[i]? = some b := by simpa using e
    have hlt := (Array.getElem?_eq_some_iff.1 hb).1
    simp only [bytesRow, Nat.zero_mul, Nat.mul_one, Nat.zero_add]
    rw [Array.getElem?_append_left (by simpa using hlt)]
    simp [hb]

theorem rowsOf_length (s : ByteArray) : (rowsOf s).length = s.size := by
  unfold rowsOf; rw [List.length_map, Array.length_toList]; rfl

theorem cap_le (w : World) (n old : Nat) (e : TypeId) : n ≤ grownCap w n old e := by
  unfold grownCap Question.cut
  simp

theorem some_bind {α β : Type} {o : Option α} {f : α → Option β} {y : β} (h : o.bind f = some y) : ∃ x, o = some x ∧ f x = some y := by
  cases o with
  | none => simp at h
  | some x => exact ⟨x, rfl, h⟩

theorem conv_sv {P : Program} {T : Tys} (hT : TOk P T) {X : Ctx} (hi : Inv X) {d : Nat} (hf : Free X d 0) {s t : TypeId} {v : Value} {x y : SV} (hx : OSV X v x) (h : convSV T s t x = some y) :
    ∃ v' X', (convert s t v).run P X.w = .ok v' X'.w ∧ PureRes X X' d v' y := by
  unfold convSV at h
  split at h
  · rename_i k n hp
    have hv := pv_val hx hp rfl
    subst hv
    split at h
    · rename_i k1 k2 h1 h2
      injection h with h; subst h
      exact ⟨.int k2 (k2.wrap n), X, by simp [convert, run_und (hT.ik _ _ h1), run_und (hT.ik _ _ h2), PV.val, Conv.intToInt], .same hi (pvSV_rel (p := .i k2 (k2.wrap n)) rfl)⟩
    · rename_i k1 h1 h2
      split at h
      · rename_i h3
        injection h with h; subst h
        exact ⟨.string (Utf8.encode n), X, by simp [convert, run_und (hT.ik _ _ h1), run_und (hT.str _ h3), PV.val, Conv.intToString], .same hi (pvSV_rel (p := .t (Utf8.encode n)) rfl)⟩
      · simp at h
    · simp at h
  · rename_i st hp
    have hv := pv_val hx hp rfl
    subst hv
    split at h
    · rename_i h1
      split at h
      · rename_i h2
        injection h with h; subst h
        exact ⟨.string st, X, by simp [convert, run_und (hT.str _ h1), run_und (hT.str _ h2), PV.val], .same hi (pvSV_rel (p := .t st) rfl)⟩
      · split at h
        · rename_i h2
          injection h with h; subst h
          obtain ⟨e, h3, h4⟩ := some_bind h2
          have hd := hT.sl _ _ h3
          have he := hT.ik _ _ h4
          have run := run_bytes_of_string (P := P) X.w s t e st (hT.str _ h1) hd he
          generalize hcap : grownCap X.w st.size 0 e = cap at run
          have hle : st.size ≤ cap := hcap ▸ cap_le X.w st.size 0 e
          have hpush : Pushes X.w (X.w.drew.alloc (.cells (bytesRow st cap) e ((bytesRow st cap).size, (bytesRow st cap).size + 1))) (.cells (bytesRow st cap) e ((bytesRow st cap).size, (bytesRow st cap).size + 1)) := ⟨rfl, rfl, rfl, rfl⟩
          have hsz : (bytesRow st cap).size = cap := by
            unfold bytesRow; rw [Array.size_append, Array.size_map, Array.size_replicate]; have : st.data.size = st.size := rfl; omega
          refine ⟨_, X.made (X.w.drew.alloc (.cells (bytesRow st cap) e ((bytesRow st cap).size, (bytesRow st cap).size + 1))) (d, 1, 0, (rowsOf st).length), run, ?_⟩
          rw [show st.size = (rowsOf st).length from (rowsOf_length st).symm]
          exact pure_made (f := false) (es := 1) (cap := cap) (rows := rowsOf st) hi hf hpush (fun o ho h => by omega) (by rw [rowsOf_length]; exact hle) (by omega) (fun X' _ hw => by
            have := rows_of (X := X') (V := X'.V false) st cap
            rw [hw] at this
            exact this)
        · simp at h
    · simp at h
  · rename_i es rows hp
    split at h
    · rename_i h1
      split at h
      · rename_i h2
        cases e1 : bytes? rows with
        | none => simp [e1] at h
        | some l =>
          simp [e1] at h; subst h
          obtain ⟨h2, rfl⟩ := h2
          obtain ⟨e, h3, h4⟩ := some_bind h1
          have hs := hT.sl _ _ h3
          have he := hT.ik _ _ h4
          have hd := hT.str _ h2
          obtain ⟨xs, hxs, rfl⟩ := bytes_rows e1
          obtain ⟨⟨V, hr⟩, _⟩ := pv_sv hx hp
          refine ⟨.string (strOfNums xs), X, ?_, .same hi (pvSV_rel (p := .t (strOfNums xs)) rfl)⟩
          cases hr with
          | s0 a cap _ =>
            have : xs = [] := by cases xs with | nil => rfl | cons _ _ => simp at hxs
            subst this
            cases a with
            | none => exact run_convert_bytes_nil X.w s e hs he 0 cap t hd
            | some ad =>
              rw [run_convert_bytes_string X.w s t e (some ad) 0 cap hs he hd, run_bytesToString X.w ad 0 cap [] (by simp [loadCells, loadCellsFrom])]
              rfl
          | s blk off n cap _ c elem fr _ hv hb hn hcap hrr =>
            subst hn
            refine run_convert_bytes_arg X.w s e hs he blk off rows.length cap xs (by rw [hxs]; simp) (fun i hi => ?_) t hd
            rw [cell_none hb]
            have hi' : i < xs.length := by rw [hxs] at hi; simpa using hi
            have hrow : rows[i]? = some [.i .u8 xs[i]] := by rw [hxs]; simp [hi']
            obtain ⟨_, g⟩ := hrr.get i _ hrow
            obtain ⟨x, hx1, hx2⟩ := g.get 0 _ rfl
            simp only [Nat.mul_one, Nat.add_zero] at hx1
            rw [hx1]
            cases hx2
            simp [List.getD_eq_getElem?_getD, hi']
      · simp at h
    · simp at h
  · simp at h

end Go.Proofs.Ytlbigobmhglppaa.R
