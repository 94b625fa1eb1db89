/- Writes into slices that lie in others: what two of them make, one behind the other. -/
import Derived.Test.YtblelojdboefjaaDoorT1
set_option linter.unusedVariables false
set_option linter.unusedSimpArgs false
namespace Go.Proofs.YtblelojdboefjaaDoor.R
open Go

theorem strip_app : ∀ {a b r p : Path}, strip a b = some r → strip a (b ++ p) = some (r ++ p)
  | [], b, r, p, h => by simp only [strip] at h ⊢; injection h with h; rw [h]
  | x :: a, [], r, p, h => by simp [strip] at h
  | x :: a, y :: b, r, p, h => by
    simp only [strip, List.cons_append] at h ⊢
    split at h
    · rename_i e; rw [if_pos e]; exact strip_app h
    · cases h
theorem modP_step {g : PV → PV} {i j : Nat} {q : Path} {es : Nat} {rows : List (List PV)} : modP g ((i, j) :: q) (.o es rows) = (match rows[i]? with
    | some row => match row[j]? with
      | some p => .o es (rows.set i (row.set j (modP g q p)))
      | none => .o es rows
    | none => .o es rows) := rfl
theorem modP_app : ∀ {q p : Path} {g h : PV → PV} {x : PV}, modP g q (modP h (q ++ p) x) = modP (fun y => g (modP h p y)) q x
  | [], p, g, h, x => by rw [modP_nil, modP_nil]; rfl
  | (i, j) :: q, p, g, h, x => by
    cases x with
    | o es rows =>
      simp only [List.cons_append, modP_step]
      cases hr : rows[i]? with
      | none => simp only [modP_step, hr]
      | some row =>
        simp only
        cases hv : row[j]? with
        | none => simp only [modP_step, hr, hv]
        | some v =>
          obtain ⟨hi, _⟩ := List.getElem?_eq_some_iff.1 hr
          obtain ⟨hj, _⟩ := List.getElem?_eq_some_iff.1 hv
          simp only [modP_step, List.getElem?_set_self hi, List.getElem?_set_self hj, List.set_set, modP_app]
    | _ => rfl
theorem modP_app' : ∀ {q p : Path} {g h : PV → PV} {x : PV}, modP h (q ++ p) (modP g q x) = modP (fun y => modP h p (g y)) q x
  | [], p, g, h, x => by rw [modP_nil, modP_nil]; rfl
  | (i, j) :: q, p, g, h, x => by
    cases x with
    | o es rows =>
      simp only [List.cons_append, modP_step]
      cases hr : rows[i]? with
      | none => simp only [modP_step, hr]
      | some row =>
        simp only
        cases hv : row[j]? with
        | none => simp only [modP_step, hr, hv]
        | some v =>
          obtain ⟨hi, _⟩ := List.getElem?_eq_some_iff.1 hr
          obtain ⟨hj, _⟩ := List.getElem?_eq_some_iff.1 hv
          simp only [modP_step, List.getElem?_set_self hi, List.getElem?_set_self hj, List.set_set, modP_app']
    | _ => rfl
def isO : PV → Bool
  | .o _ _ => true
  | _ => false
/-- What is no slice of its place's own stays none. -/
def Stuck (g : PV → PV) : Prop := ∀ y, isO y = false → isO (g y) = false
theorem Stuck.modP {g : PV → PV} (h : Stuck g) : ∀ q, Stuck (modP g q)
  | [], y, hy => by rw [modP_nil]; exact h y hy
  | (i, j) :: q, y, hy => by cases y <;> first | exact hy | simp [isO] at hy
theorem Stuck.rows {es : Nat} {r : List (List PV)} : Stuck (setRows es r) := fun y hy => by cases y <;> first | exact hy | simp [isO] at hy
theorem owBy_non {f : Bool} {y : PV} (h : isO y = false) : owBy f y = .dead := by cases y <;> first | rfl | simp [isO] at h
theorem brBy_non {s o : Nat} {q : Path} {f : Bool} {y : PV} (h : isO y = false) : brBy s o q f y = .dead := by cases y <;> first | rfl | simp [isO] at h
theorem modC_ded {s o : Nat} {q : Path} {g : PV → PV} {f : Bool} {k j : Nat} : modC s o q g f k j .dead = .dead := rfl
section
variable {s o : Nat} {f1 f2 : Bool} {σ : St}
theorem two_ow {qa qb qc : Path} {g1 g2 g : PV → PV} {k j : Nat} {f : Bool} {es : Nat} {rows : List (List PV)} (hg2 : Stuck g2) (key : R.modP g2 qb (R.modP g1 qa (.o es rows)) = R.modP g qc (.o es rows)) :
    modC s o qb g2 f2 k j (modC s o qa g1 f1 k j (.ow f es rows)) = modC s o qc g (f1 || f2) k j (.ow f es rows) := by
  simp only [modC]
  by_cases hk : k = s ∧ j = o
  · simp only [if_pos hk, ← key]
    cases hz : isO (R.modP g1 qa (.o es rows))
    · rw [owBy_non hz, owBy_non (hg2.modP _ _ hz)]; rfl
    · cases hx : R.modP g1 qa (.o es rows) with
      | o es2 rows2 => simp only [owBy, modC, if_pos hk, Bool.or_assoc]
      | _ => rw [hx] at hz; cases hz
  · simp only [if_neg hk, modC]
theorem two_ep : ∀ a b q, (epOff s o a b q).bind (fun r => epOff s o r.1 r.2.1 r.2.2) = epOff s o a b q := fun a b q => by
  unfold epOff
  by_cases hk : a = s ∧ b = o
  · simp [hk]
  · simp [hk]
/-- A write, and one that is less deep. -/
theorem modS_out {q p : Path} {g1 g2 g : PV → PV} (h2 : Stuck g2) (e : ∀ y, g2 (R.modP g1 p y) = g y) :
    modS s o q g2 f2 (modS s o (q ++ p) g1 f1 σ) = modS s o q g (f1 || f2) σ := by
  have eg : (fun y => g2 (R.modP g1 p y)) = g := funext e
  have key : ∀ (r : Path) (x : PV), R.modP g2 r (R.modP g1 (r ++ p) x) = R.modP g r x := fun r x => by rw [modP_app, eg]
  unfold modS
  refine mapSt_comp (fun k j c => ?_) two_ep 0 σ
  cases c with
  | ow f es1 rows => exact two_ow h2 (key _ _)
  | br a b q' kd lo f es1 rows =>
    simp only [modC, modL]
    by_cases hk : a = s ∧ b = o
    · simp only [if_pos hk]
      by_cases h0 : kd = 0
      · simp only [if_pos h0]
        cases hs : strip q' q with
        | some r =>
          simp only [strip_app hs, ← key]
          cases hz : isO (R.modP g1 (r ++ p) (.o es1 rows))
          · rw [brBy_non hz, brBy_non (h2.modP _ _ hz)]
          · cases hx : R.modP g1 (r ++ p) (.o es1 rows) with
            | o es2 rows2 => simp only [brBy, modC, modL, if_pos hk, if_true, hs, Bool.or_assoc]
            | _ => rw [hx] at hz; cases hz
        | none =>
          cases hs2 : strip q' (q ++ p) with
          | none => rfl
          | some r =>
            simp only
            cases hx : R.modP g1 r (.o es1 rows) with
            | o es2 rows2 => simp only [brBy, modC, modL, if_pos hk, if_true, hs]
            | _ => rfl
      · simp only [if_neg h0]
    · simp only [if_neg hk, modC, modL]
  | _ => rfl
/-- A write, and one that is deeper. -/
theorem modS_in {q p : Path} {g1 g2 g : PV → PV} (h2 : Stuck g2) (e : ∀ y, R.modP g2 p (g1 y) = g y) :
    modS s o (q ++ p) g2 f2 (modS s o q g1 f1 σ) = modS s o q g (f1 || f2) σ := by
  have eg : (fun y => R.modP g2 p (g1 y)) = g := funext e
  have key : ∀ (r : Path) (x : PV), R.modP g2 (r ++ p) (R.modP g1 r x) = R.modP g r x := fun r x => by rw [modP_app', eg]
  unfold modS
  refine mapSt_comp (fun k j c => ?_) two_ep 0 σ
  cases c with
  | ow f es1 rows => exact two_ow h2 (key _ _)
  | br a b q' kd lo f es1 rows =>
    simp only [modC, modL]
    by_cases hk : a = s ∧ b = o
    · simp only [if_pos hk]
      by_cases h0 : kd = 0
      · simp only [if_pos h0]
        cases hs : strip q' q with
        | some r =>
          simp only [← key]
          cases hz : isO (R.modP g1 r (.o es1 rows))
          · rw [brBy_non hz, brBy_non (h2.modP _ _ hz)]
          · cases hx : R.modP g1 r (.o es1 rows) with
            | o es2 rows2 => simp only [brBy, modC, modL, if_pos hk, if_true, strip_app hs, Bool.or_assoc]
            | _ => rw [hx] at hz; cases hz
        | none => rfl
      · simp only [if_neg h0]
    · simp only [if_neg hk, modC, modL]
  | _ => rfl
theorem rows_two {es : Nat} {r1 r2 : List (List PV)} (h : r1.length = r2.length) (y : PV) : setRows es r2 (R.modP (setRows es r1) [] y) = setRows es r2 y := by
  rw [modP_nil]
  cases y with
  | o es' rows =>
    simp only [setRows]
    by_cases hc : es' = es ∧ rows.length = r1.length
    · obtain ⟨rfl, hl⟩ := hc
      simp only [hl, h, and_self, if_true]
    · rw [if_neg hc, if_neg fun h' => hc ⟨h'.1, h'.2.trans h.symm⟩]
  | _ => rfl
theorem out_rows {es es' i j : Nat} {r1 r2 : List (List PV)} (y : PV) : setRows es r2 (R.modP (setRows es' r1) [(i, j)] y) = setRows es r2 y := by
  cases y with
  | o es0 rows =>
    rw [modP_step]
    split
    · split
      · simp only [setRows, List.length_set]
      · rfl
    · rfl
  | _ => rfl
theorem in_rows {es es' i j : Nat} {r1 : List PV} {r0 r : List (List PV)} {rows : List (List PV)} (h1 : rows[i]? = some r1) (h2 : r1[j]? = some (.o es' r0)) (h3 : r0.length = r.length) (y : PV) :
    R.modP (setRows es' r) [(i, j)] (setRows es rows y) = setRows es (rows.set i (r1.set j (.o es' r))) y := by
  cases y with
  | o es0 rs =>
    simp only [setRows, List.length_set]
    by_cases hc : es0 = es ∧ rs.length = rows.length
    · rw [if_pos hc, if_pos hc, modP_step]
      simp only [h1, h2, modP_nil, setRows]
      rw [if_pos ⟨trivial, h3⟩]
    · rw [if_neg hc, if_neg hc]; rfl
  | _ => rfl
theorem getP_mod {g : PV → PV} {es : Nat} {rows r : List (List PV)} (hg : g (.o es rows) = .o es r) : ∀ {q : Path} {x : PV}, getP q x = some (es, rows) → getP q (R.modP g q x) = some (es, r) ∧ isO (R.modP g q x) = true
  | [], x, h => by
    cases x with
    | o es' rows' => simp only [getP] at h; injection h with h; injection h with h1 h2; subst h1; subst h2; rw [modP_nil, hg]; exact ⟨rfl, rfl⟩
    | _ => simp [getP] at h
  | (i, j) :: q, x, h => by
    cases x with
    | o es' rows' =>
      simp only [getP] at h
      obtain ⟨row, h1, h⟩ := Option.bind_eq_some_iff.1 h
      obtain ⟨v, h2, h⟩ := Option.bind_eq_some_iff.1 h
      obtain ⟨hi, _⟩ := List.getElem?_eq_some_iff.1 h1
      obtain ⟨hj, _⟩ := List.getElem?_eq_some_iff.1 h2
      rw [modP_step]
      simp only [h1, h2]
      refine ⟨?_, rfl⟩
      simp only [getP, List.getElem?_set_self hi, List.getElem?_set_self hj, Option.bind_some]
      exact (getP_mod hg h).1
    | _ => simp [getP] at h
theorem getP_app {p : Path} {es : Nat} {rows : List (List PV)} : ∀ {q : Path} {x : PV}, getP q x = some (es, rows) → getP (q ++ p) x = getP p (.o es rows)
  | [], x, h => by
    cases x with
    | o es' rows' => simp only [getP] at h; injection h with h; injection h with h1 h2; subst h1; subst h2; rfl
    | _ => simp [getP] at h
  | (i, j) :: q, x, h => by
    cases x with
    | o es' rows' =>
      simp only [getP, List.cons_append] at h ⊢
      obtain ⟨row, h1, h⟩ := Option.bind_eq_some_iff.1 h
      obtain ⟨v, h2, h⟩ := Option.bind_eq_some_iff.1 h
      rw [h1, Option.bind_some, h2, Option.bind_some]
      exact getP_app h
    | _ => simp [getP] at h
/-- What lies at a place is the slice that rows tell, of a cell that is not flagged. -/
theorem atQ_inv {c : CV} {q : Path} {fl : Bool} {es : Nat} {rows : List (List PV)} (h : c.atQ q = some (fl, es, rows)) : ∃ es0 rows0, c = .ow fl es0 rows0 ∧ getP q (.o es0 rows0) = some (es, rows) := by
  cases c with
  | ow f es0 rows0 =>
    simp only [CV.atQ] at h
    obtain ⟨r, h1, h2⟩ := Option.map_eq_some_iff.1 h
    injection h2 with h3 h4
    subst h3; subst h4
    exact ⟨es0, rows0, rfl, h1⟩
  | _ => simp [CV.atQ] at h
/-- The slots behind some writes into the slice at the way q below cell (s, o). -/
structure Wr (s o : Nat) (q : Path) (es d : Nat) (σ0 σ : St) (rows : List (List PV)) : Prop where
  cell : (cellAt σ s o).atQ q = some (false, es, rows)
  len : σ.length = σ0.length
  pl : plain (σ.getD d .undef) = true
  to : ∀ r : List (List PV), r.length = rows.length → modS s o q (setRows es r) false σ = modS s o q (setRows es r) false σ0
/-- They are as one. -/
def Nrm (s o : Nat) (q : Path) (es : Nat) (σ0 σ : St) (rows : List (List PV)) : Prop := σ = modS s o q (setRows es rows) false σ0
theorem Wr.refl {q : Path} {es d : Nat} {rows : List (List PV)} (h : (cellAt σ s o).atQ q = some (false, es, rows)) (hp : plain (σ.getD d .undef) = true) : Wr s o q es d σ σ rows := ⟨h, rfl, hp, fun _ _ => rfl⟩
theorem Wr.store {q : Path} {es d : Nat} {σ0 : St} {rows r : List (List PV)} (h : Wr s o q es d σ0 σ rows) (hr : r.length = rows.length) : Wr s o q es d σ0 (modS s o q (setRows es r) false σ) r where
  cell := by
    obtain ⟨es0, rows0, h1, h2⟩ := atQ_inv h.cell
    have hg : setRows es r (.o es rows) = .o es r := by simp only [setRows]; rw [if_pos ⟨trivial, hr.symm⟩]
    obtain ⟨h3, h4⟩ := getP_mod hg h2
    rw [cellAt_modS, h1, modC_ow', if_pos ⟨rfl, rfl⟩]
    cases hx : R.modP (setRows es r) q (.o es0 rows0) with
    | o es1 rows1 => rw [hx] at h3; simp only [owBy, CV.atQ, h3, Option.map_some]; rfl
    | _ => rw [hx] at h4; cases h4
  len := by rw [len_modS, h.len]
  pl := plain_modS h.pl
  to := fun r' hr' => by
    have := modS_out (s := s) (o := o) (q := q) (p := []) (f1 := false) (f2 := false) (σ := σ) (g := setRows es r') Stuck.rows (rows_two (es := es) (r1 := r) hr'.symm)
    rw [List.append_nil] at this
    rw [this]
    exact h.to r' (hr'.trans hr)
theorem Wr.nrm {q : Path} {es d : Nat} {σ0 : St} {rows r : List (List PV)} (h : Wr s o q es d σ0 σ rows) (hr : r.length = rows.length) : Nrm s o q es σ0 (modS s o q (setRows es r) false σ) r := h.to r hr
theorem Wr.nest {q : Path} {es es' d i j : Nat} {σ0 : St} {rows r0 r : List (List PV)} {row : List PV} (h : Wr s o q es d σ0 σ rows) (h1 : rows[i]? = some row) (h2 : row[j]? = some (.o es' r0)) (h3 : r0.length = r.length) :
    Wr s o q es d σ0 (modS s o (q ++ [(i, j)]) (setRows es' r) false σ) (rows.set i (row.set j (.o es' r))) where
  cell := by
    obtain ⟨es0, rows0, g1, g2⟩ := atQ_inv h.cell
    have e : R.modP (setRows es' r) (q ++ [(i, j)]) (.o es0 rows0) = R.modP (setRows es (rows.set i (row.set j (.o es' r)))) q (.o es0 rows0) := by
      have key : ∀ {q : Path} {x : PV}, getP q x = some (es, rows) → R.modP (setRows es' r) (q ++ [(i, j)]) x = R.modP (setRows es (rows.set i (row.set j (.o es' r)))) q x := by
        intro q
        induction q with
        | nil =>
          intro x hx
          cases x with
          | o es1 rows1 =>
            simp only [getP] at hx; injection hx with hx; injection hx with hx1 hx2; subst hx1; subst hx2
            rw [List.nil_append, modP_nil, modP_step]
            simp only [h1, h2, modP_nil, setRows, List.length_set]
            rw [if_pos ⟨trivial, h3⟩, if_pos ⟨trivial, trivial⟩]
          | _ => simp [getP] at hx
        | cons a q ih =>
          obtain ⟨a, b⟩ := a
          intro x hx
          cases x with
          | o es1 rows1 =>
            simp only [getP] at hx
            obtain ⟨row1, k1, hx⟩ := Option.bind_eq_some_iff.1 hx
            obtain ⟨v, k2, hx⟩ := Option.bind_eq_some_iff.1 hx
            rw [List.cons_append, modP_step, modP_step]
            simp only [k1, k2, ih hx]
          | _ => simp [getP] at hx
      exact key g2
    have hg : setRows es (rows.set i (row.set j (.o es' r))) (.o es rows) = .o es (rows.set i (row.set j (.o es' r))) := by simp only [setRows, List.length_set]; rw [if_pos ⟨trivial, trivial⟩]
    obtain ⟨k3, k4⟩ := getP_mod hg g2
    rw [cellAt_modS, g1, modC_ow', if_pos ⟨rfl, rfl⟩, e]
    cases hx : R.modP (setRows es (rows.set i (row.set j (.o es' r)))) q (.o es0 rows0) with
    | o es1 rows1 => rw [hx] at k3; simp only [owBy, CV.atQ, k3, Option.map_some]; rfl
    | _ => rw [hx] at k4; cases k4
  len := by rw [len_modS, h.len]
  pl := plain_modS h.pl
  to := fun r' hr' => by
    rw [modS_out (g := setRows es r') Stuck.rows out_rows]
    exact h.to r' (by rw [hr', List.length_set])
theorem Nrm.nest {q : Path} {es es' i j : Nat} {σ0 : St} {rows r0 r : List (List PV)} {row : List PV} (h : Nrm s o q es σ0 σ rows) (h1 : rows[i]? = some row) (h2 : row[j]? = some (.o es' r0)) (h3 : r0.length = r.length) :
    Nrm s o q es σ0 (modS s o (q ++ [(i, j)]) (setRows es' r) false σ) (rows.set i (row.set j (.o es' r))) := by
  unfold Nrm at h ⊢
  rw [h, modS_in Stuck.rows (in_rows h1 h2 h3)]
  rfl
/-- The slots behind what marks a slice: as they were, if it has nothing. -/
def tu (s o : Nat) (q : Path) (es : Nat) (rows r : List (List PV)) (σ : St) : St := match rows with
  | [] => σ
  | _ :: _ => modS s o q (setRows es r) false σ
@[go_sem] theorem tu_nil {q : Path} {es : Nat} {r : List (List PV)} : tu s o q es [] r σ = σ := rfl
@[go_sem] theorem tu_cons {q : Path} {es : Nat} {x : List PV} {l r : List (List PV)} : tu s o q es (x :: l) r σ = modS s o q (setRows es r) false σ := rfl
attribute [go_sem] strip_self
@[go_sem] theorem strip_deep {q p : Path} {a : Nat × Nat} : strip (q ++ a :: p) q = none := by
  induction q with
  | nil => rfl
  | cons b q ih => simp only [List.cons_append, strip, if_true, ih]
@[go_sem] theorem strip_both {q p r : Path} : strip (q ++ p) (q ++ r) = strip p r := by
  induction q with
  | nil => rfl
  | cons b q ih => simp only [List.cons_append, strip, if_true, ih]
@[go_sem] theorem strip_one {a b : Nat × Nat} : strip [a] [b] = if a = b then some [] else none := rfl
@[go_sem] theorem strip_self_app {q p : Path} : strip q (q ++ p) = some p := by
  have := strip_app (p := p) (strip_self q)
  simpa using this
end

/-- A call in the caller's slots, of a function whose callees lie d0 deep. -/
theorem walkI {E : Env} {n d0 : Nat} {f : FuncId} {d : Nat} {τ : St} {args : List SV} {r : St × SV} {fn : Func} {code : Code} (hn : Big + (d0 + 1) ≤ n) (hf : E.fns f = some fn) (hb : fn.body = some code) (hl : args.length ≤ fn.ntmps)
    (h : ∀ m, (∀ {k}, k ≤ d0 → Big + k ≤ m) → @Wq _ (runCode (E.run f (icall E m)) (pcall E m) fn.ntmps m code (startI fn.ntmps args τ)) ⟨fun q => ended q.1 ∧ @Wq _ (finishI (E.run f (icall E m)).T fn.ntmps d fn.results.toList q.2) ⟨fun s => s = r⟩⟩) : icall E n f d τ args = some r := by
  obtain ⟨m, rfl⟩ : ∃ m, n = m + 1 := ⟨n - 1, by have := big_bd; omega⟩
  exact wq_eq (wq_icall hf hb hl (h m fun hk => by omega))
theorem finishI_sh {T : Tys} {N d t : Nat} {τ σ : St} {p : PV} (hτ : Tail N τ σ) (hd : d < σ.length) (hp : plain (σ.getD d .undef) = true) (ht : t < N)
    (hg : τ.getD t .undef = .c .one [.sh false p]) : finishI T N d [.tmp t] τ = some (σ.set d (.c .one [.sh false p]), .c .one [.sh false p]) := by
  have hT : Tail N (τ.set (N + d) .undef) (σ.set d .undef) := hτ.put (v := .undef)
  refine finishI_of (sh := [(false, 1)]) (cs := [.sh false p]) (cs0 := [.sh false p]) hτ hd hp ?_ hT rfl
  have h1 : (τ.set (N + d) .undef).getD t .undef = .c .one [.sh false p] := by
    rw [List.getD_eq_getElem?_getD, List.getElem?_set_ne (by omega), ← List.getD_eq_getElem?_getD]; exact hg
  have h3 : resultSV T N (τ.set (N + d) .undef) (.tmp t) = some (.c .one [.sh false p]) := by
    simp only [resultSV, opd, if_pos ht, h1]; rfl
  simp only [leaveRes, h3, Option.bind_some, resOf, leaveAll, id_eq, leaveC, persist, Option.map_some]
  rfl
/-- Where a round ends, of some hidden slots. -/
class HeldE where
  ix : Type
  st : ix → St
  pr : ix → Prop
def FinE (σ : St) [h : HeldE] : Prop := ∃ b, σ = h.st b ∧ h.pr b
theorem finE {σ : St} {h : HeldE} (b : h.ix) (e : σ = h.st b) (p : h.pr b) : @FinE σ h := ⟨b, e, p⟩
theorem wq_hid {E : Env} {call : CallF} {N n : Nat} {β : Type} {b : Code} {σ : St} {K : Kont (Ex × St)} (len : Nat) (S : Nat → β → St) (I : Nat → β → Prop) (hn : Big ≤ n) (hl : len ≤ 1152921504606846976)
    (h0 : @Wq _ (some (tidy N (E.D (firstId b)) σ)) ⟨fun σ => @FinE σ ⟨β, S 0, I 0⟩⟩)
    (hs : ∀ j y, j < len → (((j : Int) < (len : Int)) = True) → IntKind.i64.wrap ((j : Int) + 1) = ((j + 1 : Nat) : Int) → I j y → @Wq _ (runCode E call N n b (S j y)) ⟨cont (fun σ => @Wq _ (some (tidy N (E.D (firstId b)) σ)) ⟨fun σ => @FinE σ ⟨β, S (j + 1), I (j + 1)⟩⟩) K.run⟩)
    (he : ∀ y, I len y → @Wq _ (runCode E call N n b (S len y)) ⟨cont (fun _ => False) K.run⟩) : @Wq _ (runCode E call N n (.loop b) σ) K := by
  have hB : Big = 9223372036854775808 := rfl
  refine wq_loop_at (fun k τ => ∃ j y, j ≤ len ∧ k = len - j ∧ I j y ∧ τ = S j y) len (by omega) ?_ ?_
  · rw [wq_some] at h0 ⊢
    obtain ⟨y, h1, h2⟩ := h0
    exact ⟨0, y, Nat.zero_le _, rfl, h2, h1⟩
  · rintro k τ ⟨j, y, hj, rfl, hI, rfl⟩
    by_cases hlt : j < len
    · refine (hs j y hlt (by simp only [eq_iff_iff, iff_true]; omega) (wrap_succ hlt hl) hI).mono fun r hr => ?_
      obtain ⟨e, τ⟩ := r
      cases e with
      | normal =>
        refine Wq.mono (K := ⟨fun σ => @FinE σ ⟨β, S (j + 1), I (j + 1)⟩⟩) hr fun τ ht => ?_
        obtain ⟨y', h1, h2⟩ := ht
        exact ⟨_, by omega, j + 1, y', hlt, rfl, h2, h1⟩
      | _ => exact hr
    · obtain rfl : j = len := by omega
      refine (he y hI).mono fun r hr => ?_
      obtain ⟨e, τ⟩ := r
      cases e with
      | normal => exact hr.elim
      | _ => exact hr
/-- The slots behind j rounds that write. -/
def Rnd (s o : Nat) (q : Path) (es d : Nat) (σ0 : St) (rows : Nat → List (List PV)) (j : Nat) (σ : St) : Prop := Wr s o q es d σ0 σ (rows j) ∧ (j = 0 → σ = σ0) ∧ (0 < j → Nrm s o q es σ0 σ (rows j))
theorem Rnd.end {s o : Nat} {q : Path} {es d : Nat} {σ0 σ : St} {rows : Nat → List (List PV)} {j : Nat} {r0 : List (List PV)} (h : Rnd s o q es d σ0 rows j σ) (h0 : r0.length = j) : σ = tu s o q es r0 (rows j) σ0 := by
  cases r0 with
  | nil => exact h.2.1 h0.symm
  | cons a r0 => exact h.2.2 (by rw [← h0]; exact Nat.succ_pos _)

/-- Marks: each element in its turn. -/
def mkL {α : Type} (f : α → Nat → α × Nat) : List α → Nat → List α × Nat
  | [], k => ([], k)
  | x :: l, k => ((f x k).1 :: (mkL f l (f x k).2).1, (mkL f l (f x k).2).2)
theorem mkL_mono {α : Type} {f : α → Nat → α × Nat} (hf : ∀ x k, k ≤ (f x k).2) : ∀ {l : List α} {k j : Nat}, k ≤ (mkL f (l.take j) k).2 ∧ (mkL f (l.take j) k).2 ≤ (mkL f l k).2
  | [], k, j => by simp [mkL]
  | x :: l, k, 0 => ⟨Nat.le_refl _, by
    have := (mkL_mono hf (l := l) (k := (f x k).2) (j := 0)).2
    simp only [List.take_zero, mkL] at this ⊢
    exact Nat.le_trans (hf x k) this⟩
  | x :: l, k, j + 1 => by
    have h1 := mkL_mono hf (l := l) (k := (f x k).2) (j := j)
    simp only [List.take_succ_cons, mkL]
    exact ⟨Nat.le_trans (hf x k) h1.1, h1.2⟩
theorem mkL_len {α : Type} {f : α → Nat → α × Nat} : ∀ {l : List α} {k : Nat}, (mkL f l k).1.length = l.length
  | [], k => rfl
  | x :: l, k => by simp only [mkL, List.length_cons, mkL_len]
/-- Behind the first j elements: the number; the element that is next. -/
theorem mkL_take {α : Type} {f : α → Nat → α × Nat} : ∀ {l : List α} {k j : Nat} {x : α}, l[j]? = some x → mkL f (l.take (j + 1)) k = ((mkL f (l.take j) k).1 ++ [(f x (mkL f (l.take j) k).2).1], (f x (mkL f (l.take j) k).2).2)
  | [], k, j, x, h => by simp at h
  | y :: l, k, 0, x, h => by simp at h; subst h; rfl
  | y :: l, k, j + 1, x, h => by
    have h' : l[j]? = some x := by simpa using h
    have := mkL_take (f := f) (k := (f y k).2) h'
    simp only [List.take_succ_cons, mkL, this, List.cons_append]
/-- A slice of which the first j elements are marked. -/
def mkR {α : Type} (f : α → Nat → α × Nat) (pv : α → List PV) (l : List α) (k j : Nat) : List (List PV) := (mkL f (l.take j) k).1.map pv ++ (l.drop j).map pv
section
variable {α : Type} {f : α → Nat → α × Nat} {pv : α → List PV} {l : List α} {k j : Nat} {x : α}
theorem mkR_zero : mkR f pv l k 0 = l.map pv := by simp [mkR, mkL]
theorem mkR_end : mkR f pv l k l.length = (mkL f l k).1.map pv := by simp [mkR]
theorem mkR_len (h : j ≤ l.length) : (mkR f pv l k j).length = l.length := by simp [mkR, mkL_len]; omega
theorem mkR_get (h : l[j]? = some x) : (mkR f pv l k j)[j]? = some (pv x) := by
  obtain ⟨hj, e⟩ := List.getElem?_eq_some_iff.1 h
  unfold mkR
  rw [List.getElem?_append_right (by simp [mkL_len]; omega)]
  have : j - ((mkL f (l.take j) k).1.map pv).length = 0 := by simp [mkL_len]; omega
  rw [this, List.getElem?_map, List.getElem?_drop, Nat.add_zero, h]
  rfl
theorem mkR_set (h : l[j]? = some x) {p : List PV} (hp : p = pv (f x (mkL f (l.take j) k).2).1) : (mkR f pv l k j).set j p = mkR f pv l k (j + 1) := by
  obtain ⟨hj, e⟩ := List.getElem?_eq_some_iff.1 h
  subst hp
  unfold mkR
  rw [List.set_append_right _ _ (by simp [mkL_len]; omega), mkL_take h]
  have h0 : j - ((mkL f (l.take j) k).1.map pv).length = 0 := by simp [mkL_len]; omega
  have h1 : l.drop j = l[j] :: l.drop (j + 1) := List.drop_eq_getElem_cons hj
  rw [h0, h1, List.map_cons, List.set_cons_zero, List.map_append, List.append_assoc]
  rfl
end
end Go.Proofs.YtblelojdboefjaaDoor.R
