/- What is appended or copied: the source. -/
import Derived.Test.YtlbigobmhglppaaR22
import Derived.Deep.AppendSrc
import Derived.Deep.Upon
set_option linter.unusedVariables false
set_option linter.unusedSimpArgs false
namespace Go.Proofs.Ytlbigobmhglppaa.R
open Go

/-- The values that make up rows. -/
structure RdN (h : Array Obj) (V : Nat → Prop) (news : List Value) (es : Nat) (rows : List (List PV)) : Prop where
  len : news.length = rows.length * es
  row : ∀ (i : Nat) (row : List PV), rows[i]? = some row → row.length = es ∧ ∀ (j : Nat) (p : PV), row[j]? = some p → ∃ x, news[i * es + j]? = some x ∧ Rd h V x p

theorem RdN.mono {h h' : Array Obj} {V V' : Nat → Prop} {news : List Value} {es : Nat} {rows : List (List PV)} (x : RdN h V news es rows) (H : ∀ b, V b → V' b ∧ h'[b]? = h[b]?) : RdN h' V' news es rows :=
  ⟨x.len, fun i row e => ⟨(x.row i row e).1, fun j p hj => let ⟨u, h1, h2⟩ := (x.row i row e).2 j p hj; ⟨u, h1, h2.mono H⟩⟩⟩

theorem RdN.append {h : Array Obj} {V : Nat → Prop} {l m : List Value} {es : Nat} {a b : List (List PV)} (x : RdN h V l es a) (y : RdN h V m es b) : RdN h V (l ++ m) es (a ++ b) := by
  refine ⟨by rw [List.length_append, List.length_append, x.len, y.len, Nat.add_mul], fun i row e => ?_⟩
  by_cases hi : i < a.length
  · rw [List.getElem?_append_left hi] at e
    obtain ⟨h1, h2⟩ := x.row i row e
    refine ⟨h1, fun j p hj => ?_⟩
    obtain ⟨u, h3, h4⟩ := h2 j p hj
    exact ⟨u, by rw [List.getElem?_append_left (List.getElem?_eq_some_iff.1 h3).1]; exact h3, h4⟩
  · rw [List.getElem?_append_right (by omega)] at e
    obtain ⟨h1, h2⟩ := y.row _ row e
    refine ⟨h1, fun j p hj => ?_⟩
    obtain ⟨u, h3, h4⟩ := h2 j p hj
    refine ⟨u, ?_, h4⟩
    have : i * es = a.length * es + (i - a.length) * es := by rw [← Nat.add_mul]; congr 1; omega
    rw [List.getElem?_append_right (by rw [x.len]; omega), x.len, ← h3]
    congr 1; omega

theorem RdN.rows {h : Array Obj} {V : Nat → Prop} {news : List Value} {es : Nat} {rows : List (List PV)} (x : RdN h V news es rows) {c : Array Value} {off : Nat} (hc : ∀ (j : Nat) (u : Value), news[j]? = some u → c[off + j]? = some u) : RdRows h V c off es rows :=
  RdRows.mk fun i row e => ⟨(x.row i row e).1, RdRow.mk fun j p hj => by
    obtain ⟨u, h1, h2⟩ := (x.row i row e).2 j p hj
    exact ⟨u, by rw [← hc _ _ h1]; congr 1; omega, h2⟩⟩

theorem RdN.one {h : Array Obj} {V : Nat → Prop} {news : List Value} {es : Nat} {rows : List (List PV)} (x : RdN h V news es rows) : ∀ u ∈ news, u.oneCell' = true := by
  intro u hu
  obtain ⟨k, hk, e⟩ := List.getElem_of_mem hu
  have hes : 0 < es := by
    rcases Nat.eq_zero_or_pos es with h0 | h0
    · have := x.len; rw [h0] at this; omega
    · exact h0
  have hi : k / es < rows.length := by
    have := x.len
    exact (Nat.div_lt_iff_lt_mul hes).2 (by omega)
  obtain ⟨h1, h2⟩ := x.row (k / es) _ (List.getElem?_eq_getElem hi)
  have hj : k % es < rows[k / es].length := by rw [h1]; exact Nat.mod_lt _ hes
  obtain ⟨y, h3, h4⟩ := h2 (k % es) _ (List.getElem?_eq_getElem hj)
  have : k / es * es + k % es = k := by rw [Nat.mul_comm]; exact Nat.div_add_mod k es
  rw [this, List.getElem?_eq_getElem hk] at h3
  injection h3 with h3
  rw [← e, h3]
  exact rd_one h4

theorem rdn_of_rows {h : Array Obj} {V : Nat → Prop} {c : Array Value} {off es : Nat} {rows : List (List PV)} (x : RdRows h V c off es rows) : ∃ news, RdN h V news es rows ∧ ∀ (j : Nat) (u : Value), news[j]? = some u → c[off + j]? = some u := by
  refine ⟨(c.toList.drop off).take (rows.length * es), ⟨?_, fun i row e => ?_⟩, fun j u e => ?_⟩
  · rw [List.length_take, List.length_drop]
    refine Nat.min_eq_left ?_
    rcases Nat.eq_zero_or_pos (rows.length * es) with h0 | h0
    · omega
    · have hr : 0 < rows.length := Nat.pos_of_ne_zero fun e => by rw [e] at h0; simp at h0
      have hes : 0 < es := Nat.pos_of_ne_zero fun e => by rw [e] at h0; simp at h0
      obtain ⟨h1, h2⟩ := x.get (rows.length - 1) _ (List.getElem?_eq_getElem (by omega))
      have hj : es - 1 < (rows[rows.length - 1]'(by omega)).length := by rw [h1]; omega
      obtain ⟨y, hy, _⟩ := h2.get (es - 1) _ (List.getElem?_eq_getElem hj)
      have hlt := (Array.getElem?_eq_some_iff.1 hy).1
      have : rows.length * es = (rows.length - 1) * es + es := by
        have := Nat.succ_mul (rows.length - 1) es
        rw [show (rows.length - 1).succ = rows.length from by omega] at this
        exact this
      simp
      omega
  · obtain ⟨h1, h2⟩ := x.get i row e
    refine ⟨h1, fun j p hj => ?_⟩
    obtain ⟨y, hy, hr⟩ := h2.get j p hj
    refine ⟨y, ?_, hr⟩
    have hi := (List.getElem?_eq_some_iff.1 e).1
    have hjl := (List.getElem?_eq_some_iff.1 hj).1
    have : (i + 1) * es ≤ rows.length * es := Nat.mul_le_mul_right _ hi
    rw [Nat.add_mul] at this
    rw [List.getElem?_take, if_pos (by omega), List.getElem?_drop, ← hy]
    simp [Nat.add_assoc]
  · rw [List.getElem?_take] at e
    split at e
    · rw [List.getElem?_drop] at e
      simpa using e
    · simp at e

/-- What a slice cell holds. -/
theorem slice_cell {X : Ctx} {k j : Nat} {v : Value} {c : CV} {f : Bool} {es : Nat} {rows : List (List PV)} (h : CVRel X k j v c) (e : c.p? = some (f, .s es rows)) :
    (rows = [] ∧ ∃ a cap, v = .slice a 0 cap) ∨ ∃ (blk off cap : Nat) (cc : Array Value) (elem : TypeId) (fr : Nat × Nat), v = .slice (some ⟨blk, off, none⟩) rows.length cap ∧ rows.length ≤ cap ∧ X.w.heap[blk]? = some (.cells cc elem fr) ∧ RdRows X.w.heap (X.V f) cc off es rows := by
  have hrd : ∀ {f : Bool}, Rd X.w.heap (X.V f) v (.s es rows) → (rows = [] ∧ ∃ a cap, v = .slice a 0 cap) ∨ ∃ (blk off cap : Nat) (cc : Array Value) (elem : TypeId) (fr : Nat × Nat), v = .slice (some ⟨blk, off, none⟩) rows.length cap ∧ rows.length ≤ cap ∧ X.w.heap[blk]? = some (.cells cc elem fr) ∧ RdRows X.w.heap (X.V f) cc off es rows := fun r => by
    cases r with
    | s0 a cap _ => exact .inl ⟨rfl, a, cap, rfl⟩
    | s blk off n cap _ cc elem fr _ hv hb hn hc hr => subst hn; exact .inr ⟨blk, off, cap, cc, elem, fr, rfl, hc, hb, hr⟩
  cases c with
  | sh f0 p =>
    simp only [CV.p?] at e
    injection e with e; injection e with e1 e2; subst e1; subst e2
    cases h with | sh _ _ _ h => exact hrd h
  | ow f0 es0 rows0 =>
    simp only [CV.p?] at e
    injection e with e; injection e with e1 e2; injection e2 with e2 e3; subst e1; subst e2; subst e3
    cases h with
    | ow0 _ _ a => exact .inl ⟨rfl, a, 0, rfl⟩
    | ow _ _ _ _ blk off cap c elem fr h => exact .inr ⟨blk, off, cap, c, elem, fr, h.val, h.le, h.cells, h.reads⟩
  | br s o kd lo f0 es0 rows0 =>
    simp only [CV.p?] at e
    injection e with e; injection e with e1 e2; injection e2 with e2 e3; subst e1; subst e2; subst e3
    cases h with
    | br0 _ _ _ _ _ _ a => exact .inl ⟨rfl, a, 0, rfl⟩
    | br _ _ _ _ _ _ _ _ blk base tip cap c elem fr h => exact .inr ⟨blk, _, cap, c, elem, fr, h.val, h.le, h.cells, h.reads⟩
    | brv _ _ _ _ _ _ _ h => exact hrd h
  | dead => simp [CV.p?] at e

theorem firstCells_at {P : Program} {w : World} {size n cap blk off : Nat} {c : Array Value} {elem : TypeId} {fr : Nat × Nat} (hb : w.heap[blk]? = some (.cells c elem fr)) {news : List Value} (hl : news.length = n * size) (h : ∀ (j : Nat) (u : Value), news[j]? = some u → c[off + j]? = some u) (m : Nat) :
    (Builtin.firstCells size n (.slice (some ⟨blk, off, none⟩) m cap)).run P w = .ok news.toArray w :=
  run_firstCells_some w size n ⟨blk, off, none⟩ m cap news hl fun j u e => by rw [add_none, cell_none hb]; exact h j u e

theorem firstCells_zero {P : Program} {w : World} (size : Nat) (a : Option Addr) (m cap : Nat) : (Builtin.firstCells size 0 (.slice a m cap)).run P w = .ok #[] w := by
  cases a with
  | none => exact run_firstCells_none w size 0 m cap
  | some a => exact run_firstCells_some w size 0 a m cap [] (by simp) (by simp)

theorem bytes_rdn (h : Array Obj) (V : Nat → Prop) (s : ByteArray) : RdN h V (byteCells s) 1 (rowsOf s) := by
  refine ⟨by rw [byteCells_length, rowsOf_length, Nat.mul_one], fun i row e => ?_⟩
  simp only [rowsOf, List.getElem?_map] at e
  obtain ⟨x, h1, h2⟩ := some_map e
  subst h2
  refine ⟨rfl, fun j p hj => ?_⟩
  cases j with
  | succ j => simp at hj
  | zero =>
    simp at hj; subst hj
    refine ⟨.int .u8 x.toNat, ?_, .i _ _⟩
    rw [Nat.mul_one, Nat.add_zero]
    simp only [byteCells, List.getElem?_map, h1]
    rfl

/-- The second argument of an append. -/
theorem src_ok {P : Program} {T : Tys} (hT : TOk P T) {X : Ctx} {v : Value} {y : SV} (hy : OSV X v y) {e u : TypeId} {es : Nat} (hu : ((T.sl u).isSome || T.str u) = true) {i : TypeInfo} (hi : i.size = es) {f : Bool} {rows : List (List PV)} (h : srcOf T e es y = some (f, rows)) :
    ∃ news, Src P i.size u v rows.length news X.w ∧ RdN X.w.heap (X.V f) news es rows := by
  have hk : (∃ e', P.underlying u = some (.slice e')) ∨ P.underlying u = some .string := by
    rw [Bool.or_eq_true] at hu
    rcases hu with hu | hu
    · obtain ⟨e', he⟩ := Option.isSome_iff_exists.1 hu
      exact .inl ⟨e', hT.sl u e' he⟩
    · exact .inr (hT.str u hu)
  unfold srcOf at h
  split at h
  · rename_i c hc
    obtain ⟨h1, h2⟩ := one_sv hy hc
    split at h
    · rename_i f0 s hp
      split at h
      · rename_i hcond
        injection h with h; injection h with e1 e2; subst e1; subst e2
        obtain ⟨V, hr⟩ := p_rd (h1 0) hp
        cases hr with
        | t _ =>
          refine ⟨byteCells s, ⟨hk, fun _ => ?_, ?_, ?_, by rw [byteCells_length, rowsOf_length, hi, hcond.1, Nat.mul_one], fun u hu => by obtain ⟨_, _, rfl⟩ := List.mem_map.1 hu; rfl⟩, by rw [hcond.1]; exact bytes_rdn _ _ s⟩
          · rw [rowsOf_length]; rfl
          · rw [hi, hcond.1, rowsOf_length]; exact firstCells_string s _
          · rw [hi, hcond.1, rowsOf_length]; exact firstCells_string s _
      · simp at h
    · rename_i f0 es0 rows0 hp
      split at h
      · rename_i hcond
        injection h with h; injection h with e1 e2; subst e1; subst e2
        rcases slice_cell (h1 0) hp with ⟨e3, a, cap, e4⟩ | ⟨blk, off, cap, cc, elem, fr, e4, hle, hb, hr⟩
        · subst e3; subst e4
          exact ⟨[], ⟨hk, fun _ => rfl, firstCells_zero _ _ _ _, firstCells_zero _ _ _ _, by simp, fun _ h => by simp at h⟩, ⟨by simp, fun i row e => by simp at e⟩⟩
        · subst e4
          rcases hcond with e5 | e5
          · subst e5
            obtain ⟨news, h3, h4⟩ := rdn_of_rows hr
            exact ⟨news, ⟨hk, fun _ => rfl, firstCells_at hb (by rw [hi]; exact h3.len) h4 _, firstCells_at (w := X.w.drew) hb (by rw [hi]; exact h3.len) h4 _, by rw [hi]; exact h3.len, h3.one⟩, h3⟩
          · subst e5
            exact ⟨[], ⟨hk, fun _ => rfl, firstCells_zero _ _ _ _, firstCells_zero _ _ _ _, by simp, fun _ h => by simp at h⟩, ⟨by simp, fun i row e => by simp at e⟩⟩
      · simp at h
    · simp at h
  · simp at h

end Go.Proofs.Ytlbigobmhglppaa.R
