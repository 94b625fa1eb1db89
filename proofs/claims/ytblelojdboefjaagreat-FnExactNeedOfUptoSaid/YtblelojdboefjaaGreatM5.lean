/- What is handed in, as plain values: the arguments' reading. -/
import Derived.Test.YtblelojdboefjaaGreatM4
import Derived.Carry
import Derived.ChangeShapes
import Derived.WideShapes
import Derived.Below
import Derived.KernelRfl
import Derived.Laws.Externs
import Derived.Lib.Bytealg
set_option linter.unusedVariables false
set_option linter.unusedSimpArgs false
namespace Go.Proofs.YtblelojdboefjaaGreat.R
open Go

/-- A type of plain data; a struct is a chain of its fields. -/
inductive STy where
  | int (k : IntKind) | bool | str
  | sl (e : STy)
  | nil
  | cons (a b : STy)

def STy.size : STy → Nat
  | .nil => 0
  | .cons a b => a.size + b.size
  | _ => 1

mutual
/-- The cells are of the type; n: how much they hold. -/
inductive Fits : STy → List PV → Nat → Prop
  | int (k : IntKind) (n : Int) : k.min ≤ n → n ≤ k.max → Fits (.int k) [.i k n] 1
  | bool (b : Bool) : Fits .bool [.b b] 1
  | str (s : ByteArray) : Fits .str [.t s] (s.size + 1)
  | sl (e : STy) (rows : List (List PV)) (n : Nat) : FitsRows e rows n → Fits (.sl e) [.s e.size rows] (n + 1)
  | nil : Fits .nil [] 0
  | cons (a b : STy) (x y : List PV) (n m : Nat) : Fits a x n → Fits b y m → Fits (.cons a b) (x ++ y) (n + m)
inductive FitsRows : STy → List (List PV) → Nat → Prop
  | nil (e : STy) : FitsRows e [] 0
  | cons (e : STy) (row : List PV) (rows : List (List PV)) (n m : Nat) : Fits e row n → FitsRows e rows m → FitsRows e (row :: rows) (n + m)
end

mutual
theorem Fits.length {e : STy} {l : List PV} {n : Nat} (h : Fits e l n) : l.length = e.size :=
  match h with
  | .int .. => rfl
  | .bool _ => rfl
  | .str _ => rfl
  | .sl .. => rfl
  | .nil => rfl
  | .cons a b x y n m h1 h2 => by rw [List.length_append, h1.length, h2.length]; rfl
end

mutual
inductive OfTy (P : Program) : TypeId → STy → Prop
  | int (t : TypeId) (k : IntKind) : P.underlying t = some (.int k) → OfTy P t (.int k)
  | bool (t : TypeId) : P.underlying t = some .bool → OfTy P t .bool
  | str (t : TypeId) : P.underlying t = some .string → OfTy P t .str
  | sl (t e : TypeId) (s : STy) : P.underlying t = some (.slice e) → OfTy P e s → P.cellsOf e = s.size → 0 < s.size → OfTy P t (.sl s)
  | st (t : TypeId) (fs : Array Field) (s : STy) : P.underlying t = some (.struct fs) → OfFields P 0 fs.toList s → P.cellsOf t = s.size → OfTy P t s
inductive OfFields (P : Program) : Nat → List Field → STy → Prop
  | nil (o : Nat) : OfFields P o [] .nil
  | cons (o : Nat) (f : Field) (fs : List Field) (a b : STy) : f.offset = o → OfTy P f.type a → P.cellsOf f.type = a.size → OfFields P (o + a.size) fs b → OfFields P o (f :: fs) (.cons a b)
end

mutual
def ofTy? (P : Program) : Nat → TypeId → Option STy
  | 0, _ => none
  | n + 1, t => match P.underlying t with
    | some (.int k) => some (.int k)
    | some .bool => some .bool
    | some .string => some .str
    | some (.slice e) => (ofTy? P n e).bind fun s => if P.cellsOf e = s.size ∧ 0 < s.size then some (.sl s) else none
    | some (.struct fs) => (ofFields? P n 0 fs.toList).bind fun s => if P.cellsOf t = s.size then some s else none
    | _ => none
def ofFields? (P : Program) : Nat → Nat → List Field → Option STy
  | _, _, [] => some .nil
  | 0, _, _ => none
  | n + 1, o, f :: fs => (ofTy? P n f.type).bind fun a => if f.offset = o ∧ P.cellsOf f.type = a.size then (ofFields? P n (o + a.size) fs).map fun b => .cons a b else none
end

mutual
theorem ofTy_ok {P : Program} : ∀ {n : Nat} {t : TypeId} {s : STy}, ofTy? P n t = some s → OfTy P t s
  | 0, t, s, h => by simp [ofTy?] at h
  | n + 1, t, s, h => by
    simp only [ofTy?] at h
    split at h
    · rename_i k e; injection h with h; subst h; exact .int t k e
    · rename_i e; injection h with h; subst h; exact .bool t e
    · rename_i e; injection h with h; subst h; exact .str t e
    · rename_i e he
      obtain ⟨s', h1, h⟩ := some_bind h
      split at h
      · rename_i hc; injection h with h; subst h; exact .sl t e s' he (ofTy_ok h1) hc.1 hc.2
      · simp at h
    · rename_i fs he
      obtain ⟨s', h1, h⟩ := some_bind h
      split at h
      · rename_i hc; injection h with h; subst h; exact .st t fs s' he (ofFields_ok h1) hc
      · simp at h
    · simp at h
theorem ofFields_ok {P : Program} : ∀ {n o : Nat} {fs : List Field} {s : STy}, ofFields? P n o fs = some s → OfFields P o fs s
  | 0, o, [], s, h => by simp only [ofFields?] at h; injection h with h; subst h; exact .nil o
  | n + 1, o, [], s, h => by simp only [ofFields?] at h; injection h with h; subst h; exact .nil o
  | 0, o, f :: fs, s, h => by simp [ofFields?] at h
  | n + 1, o, f :: fs, s, h => by
    simp only [ofFields?] at h
    obtain ⟨a, h1, h⟩ := some_bind h
    split at h
    · rename_i hc
      obtain ⟨b, h2, h⟩ := some_map h
      subst h
      exact .cons o f fs a b hc.1 (ofTy_ok h1) hc.2 (ofFields_ok h2)
    · simp at h
end

/-- The entry: nothing belongs to anybody; the arguments lie in what is there. -/
def entry (W : World) : Ctx := { w := W, own := fun _ => none, va := fun b => b < W.heap.size, vs := fun _ => False }

theorem entry_inv (W : World) : Inv (entry W) := ⟨fun b t h => by simp [entry] at h, fun b b' s o q base tip base' tip' h => by simp [entry] at h, fun b h => h.elim, fun b h => h⟩

/-- How much a reading holds, as the seat's bulk has it. -/
structure BulkLaw {H : Type} (B : DataW H → Nat) (BA : List (DataW H) → Nat) : Prop where
  one : ∀ d, 1 ≤ B d
  str : ∀ l, l.length + 1 ≤ B (.lit (.string l))
  sl : ∀ e s, BA e + 1 ≤ B (.slice e s)
  agg : ∀ l, BA l ≤ B (.agg l)
  cons : ∀ d l, B d + BA l ≤ BA (d :: l)

theorem RdL.append {X : Ctx} {f : Bool} : ∀ {vs ws : List Value} {ps qs : List PV}, RdL X f vs ps → RdL X f ws qs → RdL X f (vs ++ ws) (ps ++ qs)
  | _, _, _, _, .nil, h => h
  | _, _, _, _, .cons v p vs ps h t, h' => .cons v p _ _ h (RdL.append t h')

theorem mapM_cons_some {α β : Type} {f : α → Option β} {x : α} {l : List α} {r : List β} (h : (x :: l).mapM f = some r) : ∃ y ys, f x = some y ∧ l.mapM f = some ys ∧ r = y :: ys := by
  simp only [List.mapM_cons, Option.bind_eq_bind] at h
  obtain ⟨y, h1, h⟩ := some_bind h
  obtain ⟨ys, h2, h⟩ := some_bind h
  injection h with h
  exact ⟨y, ys, h1, h2, h.symm⟩

theorem mapM_get {α β : Type} {f : α → Option β} : ∀ {l : List α} {r : List β}, l.mapM f = some r → r.length = l.length ∧ ∀ (i : Nat) (x : α), l[i]? = some x → ∃ y, f x = some y ∧ r[i]? = some y
  | [], r, h => by simp at h; subst h; exact ⟨rfl, fun i x hx => by simp at hx⟩
  | x :: l, r, h => by
    obtain ⟨y, ys, h1, h2, rfl⟩ := mapM_cons_some h
    obtain ⟨h3, h4⟩ := mapM_get h2
    refine ⟨by simp [h3], fun i z hz => ?_⟩
    cases i with
    | zero => simp at hz; subst hz; exact ⟨y, h1, rfl⟩
    | succ i => exact h4 i z (by simpa using hz)

end Go.Proofs.YtblelojdboefjaaGreat.R

/- What is handed in, as plain values: the reading opened. -/
set_option linter.unusedVariables false
set_option linter.unusedSimpArgs false
namespace Go.Proofs.YtblelojdboefjaaGreat.R
open Go

section
variable {H : Type} {enc : TypeId × Value → H} {P : Program} {W : World} {B : DataW H → Nat} {BA : List (DataW H) → Nat}

/-- The reading of cells cs as a value of type s. -/
def Opens (W : World) (s : STy) (cs : List Value) (n : Nat) : Prop := ∃ pl m, Fits s pl m ∧ m ≤ n ∧ RdL (entry W) true cs pl

theorem opens_rows {e : TypeId} {s : STy} {b off : Nat} {c : Array Value} {elem : TypeId} {fr : Nat × Nat} (hb : W.heap[b]? = some (.cells c elem fr)) (hlt : b < W.heap.size) : ∀ (len i : Nat) (ds : List (DataW H)), ds.length = len →
    (∀ (j : Nat) (d : DataW H), ds[j]? = some d → ∃ cs, (∀ (q : Nat) (v : Value), cs[q]? = some v → c[off + (i + j) * s.size + q]? = some v) ∧ Opens W s cs (B d)) → (BL : BulkLaw B BA) →
    ∃ rows m, FitsRows s rows m ∧ m ≤ BA ds ∧ rows.length = len ∧ RdRows W.heap ((entry W).V true) c (off + i * s.size) s.size rows
  | 0, i, ds, hl, H, BL => by
    have : ds = [] := List.length_eq_zero_iff.1 hl
    subst this
    exact ⟨[], 0, .nil s, Nat.zero_le _, rfl, .nil _ _ _⟩
  | len + 1, i, ds, hl, H, BL => by
    cases ds with
    | nil => simp at hl
    | cons d ds =>
      obtain ⟨cs, hcs, pl, m, hf, hm, hr⟩ := H 0 d rfl
      obtain ⟨rows, m', h1, h2, h3, h4⟩ := opens_rows (e := e) hb hlt len (i + 1) ds (by simpa using hl) (fun j d' hd => by
        obtain ⟨cs', g1, g2⟩ := H (j + 1) d' (by simpa using hd)
        refine ⟨cs', fun q v hv => ?_, g2⟩
        have := g1 q v hv
        rw [show i + 1 + j = i + (j + 1) from by omega]
        exact this) BL
      refine ⟨pl :: rows, m + m', .cons s pl rows m m' hf h1, ?_, by simp [h3], .cons c _ _ pl rows hf.length ?_ ?_⟩
      · have := BL.cons d ds; omega
      · refine RdRow.mk fun j p hj => ?_
        obtain ⟨v, hv, hrd⟩ := hr.get j p hj
        exact ⟨v, by simpa using hcs j v hv, hrd⟩
      · rw [show off + i * s.size + s.size = off + (i + 1) * s.size from by rw [Nat.add_mul]; omega]
        exact h4

theorem opens_fields (BL : BulkLaw B BA) {n : Nat} {sp : Nat → Bool} {held : Bool} (ih : ∀ {t : TypeId} {cs : List Value} {d : DataW H} {ps : List MemPlace} {s : STy}, OfTy P t s → DataW.trod enc P W 0 sp held n t cs = some (d, ps) → Opens W s cs (B d)) {cs : List Value} :
    ∀ {o : Nat} {fs : List Field} {s : STy} {xs : List (DataW H × List MemPlace)}, OfFields P o fs s → xs.length = fs.length → (∀ (i : Nat) (f : Field), fs[i]? = some f → DataW.trod enc P W 0 sp held n f.type ((cs.drop f.offset).take (P.cellsOf f.type)) = xs[i]?) → o + s.size ≤ cs.length →
      ∃ pl m, Fits s pl m ∧ m ≤ BA (xs.map (·.1)) ∧ RdL (entry W) true ((cs.drop o).take s.size) pl
  | o, [], s, xs, hs, hl, H, hc => by
    cases hs
    exact ⟨[], 0, .nil, Nat.zero_le _, by simpa [STy.size] using RdL.nil⟩
  | o, f :: fs, s, xs, hs, hl, H, hc => by
    cases hs with
    | cons _ _ _ a b ho hf hsz hfs =>
      cases xs with
      | nil => simp at hl
      | cons x xs =>
        have h0 := H 0 f rfl
        simp only [List.getElem?_cons_zero] at h0
        obtain ⟨pl, m, h1, h2, h3⟩ := ih hf h0
        simp only [STy.size] at hc
        obtain ⟨pl', m', g1, g2, g3⟩ := opens_fields BL ih hfs (xs := xs) (by simpa using hl) (fun i f' hf' => by simpa using H (i + 1) f' (by simpa using hf')) (by omega)
        refine ⟨pl ++ pl', m + m', .cons a b pl pl' m m' h1 g1, ?_, ?_⟩
        · have := BL.cons x.1 (xs.map (·.1))
          simp only [List.map_cons]
          omega
        · have e : (cs.drop o).take (STy.cons a b).size = (cs.drop o).take a.size ++ (cs.drop (o + a.size)).take b.size := by
            simp only [STy.size]
            rw [List.take_add, List.drop_drop]
          rw [e]
          rw [ho, hsz] at h3
          exact h3.append g3

theorem open_ok (BL : BulkLaw B BA) : ∀ (fuel : Nat),
    (∀ {t : TypeId} {cs : List Value} {d : DataW H} {ps : List MemPlace} {sp : Nat → Bool} {held : Bool} {s : STy}, OfTy P t s → DataW.trod enc P W 0 sp held fuel t cs = some (d, ps) → Opens W s cs (B d)) := by
  intro fuel
  induction fuel with
  | zero => intro t cs d ps sp held s hs h; simp [DataW.trod] at h
  | succ fuel ih =>
    intro t cs d ps sp held s hs h
    cases hs with
    | int _ k hu =>
      obtain ⟨n, rfl, hx, hw⟩ := DataW.trod_int hu h
      injection hx with h1 h2
      subst h1
      simp only [Lit.wf, Bool.and_eq_true, decide_eq_true_eq] at hw
      exact ⟨_, 1, .int _ _ hw.1 hw.2, BL.one _, .cons _ _ _ _ (.i _ _) .nil⟩
    | bool _ hu =>
      obtain ⟨b, rfl, hx⟩ := DataW.trod_bool hu h
      injection hx with h1 h2
      subst h1
      exact ⟨_, 1, .bool _, BL.one _, .cons _ _ _ _ (.b _) .nil⟩
    | str _ hu =>
      obtain ⟨s, rfl, hx, hw⟩ := DataW.trod_string hu h
      injection hx with h1 h2
      subst h1
      refine ⟨_, _, .str s, Nat.le_trans ?_ (BL.str _), .cons _ _ _ _ (.t _) .nil⟩
      rw [Array.length_toList]; exact Nat.le_refl _
    | sl _ e s' hu he hsz hpos =>
      rcases DataW.trod_slice hu h with ⟨rfl, hx⟩ | ⟨a, len, cap, elems, rest, n, hn, rfl, hx, hb, hle, hcap, hlen, hel, _⟩
      · injection hx with h1 h2
        subst h1
        exact ⟨_, 1, .sl s' [] 0 (.nil s'), BL.one _, .cons _ _ _ _ (.s0 none 0 _) .nil⟩
      · injection hx with h1 h2
        injection hn with hn
        subst hn
        subst h1
        rcases Nat.eq_zero_or_pos len with h0 | h0
        · subst h0
          exact ⟨_, 1, .sl s' [] 0 (.nil s'), BL.one _, .cons _ _ _ _ (.s0 (some a) cap _) .nil⟩
        · -- the block
          have hcells : ∀ (i : Nat) (x : DataW H × List MemPlace), elems[i]? = some x → ∃ cs', W.cells? 0 (a.add (i * P.cellsOf e)) (P.cellsOf e) = some cs' ∧ DataW.trod enc P W 0 sp held fuel e cs' = some x := fun i x hx => by
            have hi : i < len := by rw [← hlen]; exact (List.getElem?_eq_some_iff.1 hx).1
            have := hel i hi
            rw [hx] at this
            exact some_bind this
          have hfirst : ∃ c elem fr, W.heap[a.block]? = some (.cells c elem fr) ∧ a.spot = none := by
            obtain ⟨cs', h3, _⟩ := hcells 0 _ (List.getElem?_eq_getElem (by omega))
            obtain ⟨_, h4, h5⟩ := World.cells?_some h3
            have h6 := h5 0 (by rw [hsz]; exact hpos)
            rw [List.getElem?_eq_getElem (by omega)] at h6
            have e0 : (a.add (0 * P.cellsOf e)).add 0 = a := by simp [Addr.add]
            rw [e0] at h6
            unfold World.cell? at h6
            split at h6
            · rename_i c elem fr hh
              split at h6
              · simp at h6
              · rename_i hspot
                refine ⟨c, elem, fr, hh, ?_⟩
                cases hq : a.spot with
                | none => rfl
                | some z => rw [hq] at hspot; simp at hspot
            · simp at h6
          obtain ⟨c, elem, fr, hh, hspot⟩ := hfirst
          obtain ⟨blk, off, spot⟩ := a
          simp only at hspot hh
          subst hspot
          have hlt : blk < W.heap.size := (Array.getElem?_eq_some_iff.1 hh).1
          obtain ⟨rows, m, g1, g2, g3, g4⟩ := opens_rows (e := e) (s := s') (off := off) hh hlt len 0 (elems.map (·.1)) (by simpa using hlen) (fun j d' hd => by
            rw [List.getElem?_map] at hd
            obtain ⟨x, hx, rfl⟩ := some_map hd
            obtain ⟨cs', h3, h4⟩ := hcells j x hx
            obtain ⟨_, h5, h6⟩ := World.cells?_some h3
            refine ⟨cs', fun q v hv => ?_, ih he h4⟩
            have hq : q < P.cellsOf e := by rw [← h5]; exact (List.getElem?_eq_some_iff.1 hv).1
            have h7 := h6 q hq
            rw [add_none, add_none, cell_none hh, hv] at h7
            rw [Nat.zero_add, ← hsz]
            exact h7) BL
          refine ⟨_, m + 1, .sl s' rows m g1, ?_, .cons _ _ _ _ (.s blk off len cap _ c elem fr rows (.inr ⟨rfl, hlt⟩) hh g3.symm hle (by rw [Nat.zero_mul, Nat.add_zero] at g4; exact g4)) .nil⟩
          have := BL.sl (elems.map (·.1)) (rest.map (·.1))
          omega
    | st _ fs _ hu hfs hsz =>
      obtain ⟨xs, n, hn, hx, hl, hlen, hf⟩ := DataW.trod_struct hu h
      injection hx with h1 h2
      injection hn with hn
      subst hn
      subst h1
      obtain ⟨pl, m, g1, g2, g3⟩ := opens_fields BL (n := fuel) (cs := cs) (fun {t cs d ps s} hs h => ih hs h) hfs (xs := xs) (by simpa using hlen) (fun i f hi => hf i f (by simpa using hi)) (by omega)
      refine ⟨pl, m, g1, Nat.le_trans g2 (BL.agg _), ?_⟩
      have : (cs.drop 0).take s.size = cs := by rw [List.drop_zero, ← hsz, ← hl, List.take_length]
      rw [this] at g3
      exact g3

end
end Go.Proofs.YtblelojdboefjaaGreat.R

/- A law's call. -/
set_option linter.unusedVariables false
set_option linter.unusedSimpArgs false
namespace Go.Proofs.YtblelojdboefjaaGreat.R
open Go Go.RowKit

theorem goes_below {W : World} {X' : Ctx} (h : Goes (entry W) X') : Below W.heap.size W X'.w :=
  ⟨h.os, h.tape, h.output, h.size, fun k hk => h.keep k hk rfl⟩

/-- An argument, as the called function has it. -/
def argC (p : PV) : CV := .sh (!p.scalar) p

theorem arg_cv {W : World} {v : Value} {p : PV} (h : Rd W.heap ((entry W).V true) v p) : ∀ k j, CVRel (entry W) k j v (argC p) := fun k j => by
  refine .sh _ p v ?_
  cases hs : p.scalar with
  | true => exact h.scalar hs
  | false => exact h
theorem arg_cells {W : World} : ∀ {vs : List Value} {ps : List PV}, RdL (entry W) true vs ps → VCells (entry W) vs (ps.map argC)
  | _, _, .nil => .nil
  | _, _, .cons v p vs ps h t => .cons v _ vs _ (arg_cv h) (arg_cells t)

theorem arg_agg {W : World} {cs : Array Value} {ps : List PV} (h : RdL (entry W) true cs.toList ps) : OSV (entry W) (.agg cs) (.c .agg (ps.map argC)) := osv_mk (.agg cs) (arg_cells h)
theorem arg_one {W : World} {v : Value} {p : PV} (h : RdL (entry W) true [v] [p]) : OSV (entry W) v (.c .one [argC p]) := by
  have hc := arg_cells h
  cases h with
  | cons _ _ _ _ h _ => exact osv_mk (.one v (not_agg_of_rd h)) hc

theorem law_calls {P : Program} {E : Env} (hT : TOk P E.T) (hE : EnvOk P E) (hO : OrcOk P E) (hm : P.follows .mixedOrders = true) {f : FuncId} {fn : Func} (hf : E.fns f = some fn) {code : Code} (hb : fn.body = some code) {W : World} {argv : List Value} {args : List SV} (ho : OSVs (entry W) argv args)
    (hs : ∀ N, args.map (shiftSV N) = args) {n : Nat} {r : Ret} (h : pcall E n f args [] = some r) {fl : Bool} (hr : r.res = .c .one [.sh fl (.b true)]) :
    Calls P f argv.toArray W fun e w' => e = .returned (.bool true) ∧ Below W.heap.size W w' := by
  obtain ⟨N, hN, H⟩ := pcall_ok hT hE hO hm n f args [] r h
  have hlen := ho.length
  have hg : Good (entry W) (argv ++ List.replicate (N - args.length) undef ++ []) (args.map (shiftSV N) ++ List.replicate (N - args.length) .undef ++ [].map (SV.c .box)) NoE := by
    rw [hs]
    refine ⟨entry_inv W, ⟨by simp [hlen], fun k v sv hv hsv => ?_⟩, fun b s p q base tip h => by simp [entry] at h, fun b s q base tip h => by simp [entry] at h⟩
    simp only [List.append_nil, List.map_nil] at hv hsv
    by_cases hk : k < args.length
    · rw [List.getElem?_append_left (by omega)] at hv
      rw [List.getElem?_append_left hk] at hsv
      exact ho.get k v sv hv hsv k
    · rw [List.getElem?_append_right (by omega), List.getElem?_replicate] at hsv
      split at hsv
      · injection hsv with hsv; subst hsv; exact .undef v
      · simp at hsv
  have hL := H (entry W) argv [] hlen hg
  obtain ⟨h1, h2⟩ := hE f fn hf
  unfold Lands at hL
  rw [run_enter h1 h2 hb] at hL
  refine Calls.mono hL ?_
  intro e w' he
  cases e with
  | returned v =>
    obtain ⟨X', hw, G, hg'⟩ := he
    have hres := hg'.frame.2 0 v _ rfl rfl
    rw [hr] at hres
    cases hres with
    | c _ _ vs _ hfl hc =>
      cases hfl with
      | one _ _ =>
        cases hc with
        | cons _ _ _ _ _ hc _ =>
          cases hc with
          | sh _ _ _ hrd =>
            cases hrd with
            | b x => exact ⟨rfl, by rw [← hw]; exact goes_below G⟩
  | panicked c => exact he.elim
  | outgrown => exact he.elim

end Go.Proofs.YtblelojdboefjaaGreat.R

/- The tables tell what the program's types are: how that is asked. -/
set_option linter.unusedVariables false
set_option linter.unusedSimpArgs false
namespace Go.Proofs.YtblelojdboefjaaGreat.R
open Go

section
variable {P : Program}

theorem info_size {t : TypeId} {n : Nat} (h : (P.info? t).map (·.size) = some n) : ∃ i, P.info? t = some i ∧ i.size = n := some_map h
theorem info_bytes {t : TypeId} {n : Nat} (h : (P.info? t).map (·.bytes) = some n) : ∃ i, P.info? t = some i ∧ i.bytes = n := some_map h

def isStruct? : Option TypeDesc → Bool
  | some (.struct _) => true
  | _ => false
theorem struct_of {t : TypeId} (h : isStruct? (P.underlying t) = true) : ∃ fs, P.underlying t = some (.struct fs) := by
  cases e : P.underlying t with
  | none => rw [e] at h; simp [isStruct?] at h
  | some d =>
    rw [e] at h
    cases d <;> simp [isStruct?] at h
    exact ⟨_, rfl⟩
theorem flat_desc {t : TypeId} (h : (P.underlying t).map isAgB = some false) : ∃ d, P.underlying t = some d ∧ isAgB d = false := some_map h

def zOk : PV → Bool
  | .s _ [] => true
  | .s _ _ => false
  | .o _ _ => false
  | .un => false
  | _ => true
theorem zero_of {t : TypeId} {l : List PV} (h : ((P.info? t).bind (·.zero)).map (·.cells.toList) = some (l.map PV.val)) (hl : l.all zOk = true) : ∃ i v, P.info? t = some i ∧ i.zero = some v ∧ v.cells.toList = l.map PV.val ∧ (∀ p ∈ l, p.scalar = true ∨ ∃ es, p = .s es []) := by
  obtain ⟨v, h1, h2⟩ := some_map h
  obtain ⟨i, h3, h4⟩ := some_bind h1
  refine ⟨i, v, h3, h4, h2, fun p hp => ?_⟩
  have := List.all_eq_true.1 hl p hp
  cases p with
  | s es rows =>
    cases rows with
    | nil => exact .inr ⟨es, rfl⟩
    | cons _ _ => simp [zOk] at this
  | o es rows => simp [zOk] at this
  | un => simp [zOk] at this
  | _ => exact .inl rfl

def fieldAt? (P : Program) (t : TypeId) (f : Nat) : Option (Nat × Nat) :=
  match P.underlying t with
  | some (.struct fs) => (fs[f]?).bind fun fl => (P.info? fl.type).map fun i => (fl.offset, i.size)
  | _ => none
theorem fieldAt_of {t : TypeId} {f d n : Nat} (h : fieldAt? P t f = some (d, n)) : ∃ fs fl i, P.underlying t = some (.struct fs) ∧ fs[f]? = some fl ∧ fl.offset = d ∧ P.info? fl.type = some i ∧ i.size = n := by
  unfold fieldAt? at h
  split at h
  · rename_i fs hu
    obtain ⟨fl, h1, h⟩ := some_bind h
    obtain ⟨i, h2, h⟩ := some_map h
    injection h with h3 h4
    exact ⟨fs, fl, i, hu, h1, h3, h2, h4⟩
  · simp at h
theorem off_of {t : TypeId} {f d n : Nat} (h : fieldAt? P t f = some (d, n)) (hn : n ≠ 0) : ∃ fs fl i, P.underlying t = some (.struct fs) ∧ fs[f]? = some fl ∧ fl.offset = d ∧ P.info? fl.type = some i ∧ i.size ≠ 0 := by
  obtain ⟨fs, fl, i, h1, h2, h3, h4, h5⟩ := fieldAt_of h
  exact ⟨fs, fl, i, h1, h2, h3, h4, by rw [h5]; exact hn⟩
theorem size_of {t : TypeId} {f d n : Nat} (h : fieldAt? P t f = some (d, n)) : ∃ fs fl i, P.underlying t = some (.struct fs) ∧ fs[f]? = some fl ∧ P.info? fl.type = some i ∧ i.size = n := by
  obtain ⟨fs, fl, i, h1, h2, h3, h4, h5⟩ := fieldAt_of h
  exact ⟨fs, fl, i, h1, h2, h4, h5⟩

def offAt? (P : Program) (t : TypeId) (f : Nat) : Option Nat :=
  match fieldAt? P t f with
  | some (d, n) => if n = 0 then none else some d
  | none => none
def sizeAt? (P : Program) (t : TypeId) (f : Nat) : Option Nat := (fieldAt? P t f).map (·.2)
theorem offAt_of {t : TypeId} {f d : Nat} (h : offAt? P t f = some d) : ∃ fs fl i, P.underlying t = some (.struct fs) ∧ fs[f]? = some fl ∧ fl.offset = d ∧ P.info? fl.type = some i ∧ i.size ≠ 0 := by
  unfold offAt? at h
  split at h
  · rename_i d' n e
    split at h
    · simp at h
    · rename_i hn
      injection h with h; subst h
      exact off_of e hn
  · simp at h
theorem sizeAt_of {t : TypeId} {f n : Nat} (h : sizeAt? P t f = some n) : ∃ fs fl i, P.underlying t = some (.struct fs) ∧ fs[f]? = some fl ∧ P.info? fl.type = some i ∧ i.size = n := by
  obtain ⟨⟨d, m⟩, h1, h2⟩ := some_map h
  subst h2
  exact size_of h1

/-- Where a struct's fields lie, and how many cells each has. -/
def fieldsL (P : Program) (t : TypeId) : List (Nat × Nat) :=
  match P.underlying t with
  | some (.struct fs) => fs.toList.map fun fl => (fl.offset, ((P.info? fl.type).map (·.size)).getD 0)
  | _ => []
theorem fieldsL_of {t : TypeId} {l : List (Nat × Nat)} (h : l = [] ∨ fieldsL P t = l) {f d n : Nat} (hf : l[f]? = some (d, n)) (hn : n ≠ 0) : ∃ fs fl i, P.underlying t = some (.struct fs) ∧ fs[f]? = some fl ∧ fl.offset = d ∧ P.info? fl.type = some i ∧ i.size = n := by
  rcases h with h | h
  · subst h; simp at hf
  · unfold fieldsL at h
    split at h
    · rename_i fs hu
      rw [← h, List.getElem?_map] at hf
      obtain ⟨fl, h1, h2⟩ := some_map hf
      injection h2 with h3 h4
      cases hi : P.info? fl.type with
      | none => rw [hi] at h4; simp at h4; exact absurd h4.symm hn
      | some i => rw [hi] at h4; simp at h4; exact ⟨fs, fl, i, hu, by simpa using h1, h3, hi, h4⟩
    · rw [← h] at hf; simp at hf

def infos? (P : Program) (t : TypeId) : Bool :=
  match P.underlying t with
  | some (.struct fs) => fs.toList.all fun fl => (P.info? fl.type).isSome
  | _ => true
theorem infos_of {t : TypeId} (h : infos? P t = true) {fs : Array Field} (hu : P.underlying t = some (.struct fs)) : ∀ fl ∈ fs, ∃ i, P.info? fl.type = some i := fun fl hf => by
  unfold infos? at h
  rw [hu] at h
  simp only [List.all_eq_true] at h
  exact Option.isSome_iff_exists.1 (h fl (by simpa using hf))

theorem func_of {f : FuncId} {fn : Func} (h : P.funcs[f]? = some fn) (hn : (fn.name == "runtime.NumGoroutine") = false) : P.funcs[f]? = some fn ∧ (fn.name == "runtime.NumGoroutine") = false := ⟨h, hn⟩

end
end Go.Proofs.YtblelojdboefjaaGreat.R

/- Functions of Go's library without a body: what they answer is told. -/
set_option linter.unusedVariables false
set_option linter.unusedSimpArgs false
namespace Go.Proofs.YtblelojdboefjaaGreat.R
open Go

/-- A function of a text and a byte that answers a whole number. -/
def byteOrc (h : ByteArray → Int → Int) : CallF → List SV → List (List CV) → Option Ret := fun _ args bs =>
  match args, bs with
  | [.c .one [.sh _ (.t s)], .c .one [.sh _ (.i .u8 c)]], [] => some ⟨pvSV (.i .i64 (h s c)), []⟩
  | _, _ => none

theorem byteOrc_ok {P : Program} {f : FuncId} {h : ByteArray → Int → Int} (hf : ∀ (s : ByteArray) (c : Int) (w : World), (callFunc f #[.string s, .int .u8 c]).run P w = .ok (.value (.int .i64 (h s c))) w) {call : CallF} {args : List SV} {bs : List (List CV)} {r : Ret} (hr : byteOrc h call args bs = some r) :
    ∃ N, args.length ≤ N ∧ ∀ (X : Ctx) (argv gv : List Value), argv.length = args.length → Good X (argv ++ List.replicate (N - args.length) undef ++ gv) (args.map (shiftSV N) ++ List.replicate (N - args.length) .undef ++ bs.map (.c .box)) NoE →
      Lands P f argv.toArray X.w fun v w' => ∃ X', X'.w = w' ∧ Goes X X' ∧ Good X' (v :: gv) (r.res :: r.boxes.map (.c .box)) NoE := by
  unfold byteOrc at hr
  split at hr
  · rename_i x1 s x2 c
    injection hr with hr; subst hr
    refine ⟨2, Nat.le_refl _, fun X argv gv hl hg => ?_⟩
    match argv, hl with
    | [v1, v2], _ =>
      simp only [List.length_cons, List.length_nil, Nat.sub_self, List.replicate_zero, List.append_nil, List.map_nil, List.map_cons, shiftSV] at hg
      have hgv : gv = [] := by
        have := hg.frame.1
        simp at this
        exact this
      subst hgv
      have h1 := hg.frame.2 0 v1 _ rfl rfl
      have h2 := hg.frame.2 1 v2 _ rfl rfl
      have e1 : v1 = .string s := by
        cases h1 with
        | c _ _ vs _ hfl hc =>
          cases hfl with
          | one _ _ =>
            cases hc with
            | cons _ _ _ _ _ hc _ =>
              cases hc with
              | sh _ _ _ hrd => cases hrd; rfl
      have e2 : v2 = .int .u8 c := by
        cases h2 with
        | c _ _ vs _ hfl hc =>
          cases hfl with
          | one _ _ =>
            cases hc with
            | cons _ _ _ _ _ hc _ =>
              cases hc with
              | sh _ _ _ hrd => cases hrd; rfl
      subst e1; subst e2
      unfold Lands
      rw [hf s c X.w]
      refine ⟨X, rfl, .refl X, hg.inv, ⟨rfl, fun k v sv hv hs => ?_⟩, fun b s p q base tip ho => ?_, fun b s q base tip ho => ?_⟩
      · cases k with
        | zero =>
          simp only [List.getElem?_cons_zero] at hv hs
          injection hv with hv; subst hv; injection hs with hs; subst hs
          exact .c .one _ [_] _ (.one _ (fun cs h => by cases h)) (.cons _ _ _ _ _ (.sh _ _ _ (.i _ _)) (.nil _))
        | succ k => simp at hv
      · rcases hg.tags.cell b s p q base tip ho with h | h
        · exact h.elim
        · exfalso
          match s, h with
          | 0, h => cases p <;> simp [cellAt, CV.isOw] at h
          | 1, h => cases p <;> simp [cellAt, CV.isOw] at h
          | s + 2, h => simp [cellAt, CV.isOw] at h
      · obtain ⟨l, h⟩ := hg.tags.box b s q base tip ho
        exfalso
        match s, h with
        | 0, h => simp at h
        | 1, h => simp at h
        | s + 2, h => simp at h
  · simp at hr

theorem count_run {P : Program} {f : FuncId} {fn : Func} (hf : P.funcs[f]? = some fn) (hname : (fn.name == "runtime.NumGoroutine") = false) (hb : fn.body.isNone = true) (hn : Extern.findNext fn = none) (he : Extern.find fn = some Extern.BytealgCount.count) (s : ByteArray) (c : Int) (w : World) :
    (callFunc f #[.string s, .int .u8 c]).run P w = .ok (.value (.int .i64 (Lib.countByte s.data.toList c.toNat.toUInt8))) w := by
  rw [run_callFunc_extern hf hname hb hn he, Lib.run_countString]; rfl
theorem index_run {P : Program} {f : FuncId} {fn : Func} (hf : P.funcs[f]? = some fn) (hname : (fn.name == "runtime.NumGoroutine") = false) (hb : fn.body.isNone = true) (hn : Extern.findNext fn = none) (he : Extern.find fn = some Extern.BytealgIndexByte.indexByte) (s : ByteArray) (c : Int) (w : World) :
    (callFunc f #[.string s, .int .u8 c]).run P w = .ok (.value (.int .i64 (Lib.indexByte s.data.toList c.toNat.toUInt8))) w := by
  rw [run_callFunc_extern hf hname hb hn he, Lib.run_indexByteString]; rfl

end Go.Proofs.YtblelojdboefjaaGreat.R
