/- The operations that do nothing but answer: cuts, lengths, literals, rows that are made. -/
import Derived.Test.YtlbigobmhglppaaR11
set_option linter.unusedVariables false
set_option linter.unusedSimpArgs false
namespace Go.Proofs.Ytlbigobmhglppaa.R
open Go

/-- An operand that may be there. -/
def MaybeSV (X : Ctx) (xv : Option Value) (x : Option SV) : Prop := (∀ v, xv = some v → ∃ s, x = some s ∧ OSV X v s) ∧ (xv = none → x = none)

theorem run_bounds {P : Program} {X : Ctx} {lo hi : Option Value} {x y : Option SV} (hx : MaybeSV X lo x) (hy : MaybeSV X hi y) {isS : Bool} {n len cap h l : Nat} (hn : n = len) (hc : len ≤ cap)
    (e1 : bound y n n = some h) (e2 : bound x h 0 = some l) : (Instr.sliceBounds isS len cap lo hi none).run P X.w = .ok (l, h, cap) X.w ∧ h ≤ n ∧ l ≤ h ∧ (lo = none → l = 0) ∧ (hi = none → h = n) := by
  subst hn
  obtain ⟨r1, b1, d1⟩ := bound_ok (P := P) (X := X) (x := y) (xv := hi) hy.1 hy.2 (n := n) (d := n) (r := h) e1 (if isS then BoundsCode.sliceAcap else .sliceAlen)
  obtain ⟨r2, b2, d2⟩ := bound_ok (P := P) (X := X) (x := x) (xv := lo) hx.1 hx.2 (n := h) (d := 0) (r := l) e2 BoundsCode.sliceB
  have hh : h ≤ n := by
    cases hi with
    | none => rw [d1 rfl]; exact Nat.le_refl _
    | some v => exact b1 rfl
  have hl : l ≤ h := by
    cases lo with
    | none => rw [d2 rfl]; exact Nat.zero_le _
    | some v => exact b2 rfl
  refine ⟨?_, hh, hl, fun e => d2 e, fun e => d1 e⟩
  -- the machine's bound on the upper end is the capacity
  have r1' : (match hi with | some v => Instr.sliceBound v cap (if isS then BoundsCode.sliceAcap else .sliceAlen) | none => pure n).run P X.w = .ok h X.w := by
    cases hi with
    | none => exact r1
    | some v =>
      obtain ⟨s, rfl, hs⟩ := hy.1 v rfl
      simp only [bound] at e1
      obtain ⟨⟨k, i⟩, e3, e4⟩ := some_bind e1
      have hv := int_sv hs e3
      subst hv
      simp only at e4
      split at e4
      · rename_i hb
        injection e4 with e4; subst e4
        simp only [Instr.sliceBound, asIntOf, Sem.run_bind, Sem.run_pure, Result.andThen_ok]
        rw [if_pos ⟨hb.1, by omega⟩]
        rfl
      · simp at e4
  unfold Instr.sliceBounds
  cases hi with
  | none =>
    cases lo with
    | none =>
      have := d1 rfl; have := d2 rfl
      simp_all
    | some v =>
      have := d1 rfl
      subst this
      simp only [Sem.run_bind, Sem.run_pure, Result.andThen_ok] at r2 ⊢
      simp only [Option.isSome_none, Bool.false_eq_true, if_false]
      rw [r2]
      rfl
  | some u =>
    simp only [Sem.run_bind, Sem.run_pure, Result.andThen_ok] at r1' ⊢
    rw [r1']
    simp only [Result.andThen_ok]
    cases lo with
    | none => have := d2 rfl; subst this; rfl
    | some v =>
      simp only [Option.isSome_none, Bool.false_eq_true, if_false, Sem.run_bind] at r2 ⊢
      rw [r2]
      rfl

theorem rows_cut {X : Ctx} {V : Nat → Prop} {c : Array Value} {off es : Nat} {rows : List (List PV)} (h : RdRows X.w.heap V c off es rows) (a b : Nat) : RdRows X.w.heap V c (off + a * es) es ((rows.take b).drop a) := by
  refine RdRows.mk fun i row hi => ?_
  rw [List.getElem?_drop, List.getElem?_take] at hi
  split at hi
  · obtain ⟨h1, h2⟩ := h.get _ _ hi
    refine ⟨h1, ?_⟩
    have : off + (a + i) * es = off + a * es + i * es := by rw [Nat.add_mul]; omega
    rw [← this]; exact h2
  · simp at hi

theorem cut_len {rows : List (List PV)} {l h : Nat} (h1 : h ≤ rows.length) (h2 : l ≤ h) : ((rows.take h).drop l).length = h - l := by
  simp; omega

theorem run_slice {P : Program} {T : Tys} (hT : TOk P T) {w : World} {t : TypeId} {es : Nat} (ht : (T.sl t).bind T.sz = some es) {a : Option Addr} {n cap l h : Nat} {lo hi : Option Value}
    (hr : (Instr.sliceBounds true n cap lo hi none).run P w = .ok (l, h, cap) w) :
    (Instr.sliceAt t (.slice a n cap) lo hi none).run P w = .ok (.slice (if cap = l then a else a.map (·.add (l * es))) (h - l) (cap - l)) w := by
  obtain ⟨e, h1, h2⟩ := some_bind ht
  have hu := hT.sl t e h1
  obtain ⟨i, hi, hn⟩ := hT.sz e es h2
  simp only [Instr.sliceAt, Sem.run_bind, run_und hu, Result.andThen_ok, Instr.slice, hr, run_siz hi, hn, Sem.run_pure]

theorem slice_sv {P : Program} {T : Tys} (hT : TOk P T) {X : Ctx} {t : TypeId} {v : Value} {x y : SV} {lo hi : Option Value} {lx hx' : Option SV} (hx : OSV X v x) (hlo : MaybeSV X lo lx) (hhi : MaybeSV X hi hx')
    (h : sliceSV T t x lx hx' = some y) : ∃ v', (Instr.sliceAt t v lo hi none).run P X.w = .ok v' X.w ∧ OSV X v' y := by
  unfold sliceSV at h
  obtain ⟨c, e1, h⟩ := some_bind h
  obtain ⟨hc, hna⟩ := one_sv hx e1
  have one : ∀ {v' : Value} {cv : CV}, (∀ cs, v' ≠ .agg cs) → (∀ k j, CVRel X k j v' cv) → OSV X v' (.c .one [cv]) := fun h1 h2 => osv_mk (.one _ h1) (.cons _ _ _ _ h2 .nil)
  split at h
  · rename_i f s
    split at h
    · rename_i hs
      obtain ⟨hh, e2, h⟩ := some_bind h
      cases e3 : bound lx hh 0 with
      | none => simp [e3] at h
      | some l =>
        simp [e3] at h; subst h
        have hu := hT.str t hs
        have := hc 0
        cases this with
        | sh _ _ _ hr =>
          cases hr
          obtain ⟨r, _, _, _, _⟩ := run_bounds (P := P) hlo hhi (isS := false) (n := s.size) rfl (Nat.le_refl _) e2 e3
          refine ⟨.string (s.extract l hh), ?_, pvSV_rel (p := .t (s.extract l hh)) rfl⟩
          simp only [Instr.sliceAt, Sem.run_bind, run_und hu, Result.andThen_ok, Instr.slice, Option.isSome_none, Bool.false_eq_true, if_false, r, Sem.run_pure]
    · simp at h
  · rename_i f es rows
    split at h
    · rename_i ht
      obtain ⟨hh, e2, h⟩ := some_bind h
      cases e3 : bound lx hh 0 with
      | none => simp [e3] at h
      | some l =>
        simp [e3] at h; subst h
        have := hc 0
        cases this with
        | sh _ _ _ hr =>
          cases hr with
          | s0 a cap _ =>
            obtain ⟨r, h1, h2, _, _⟩ := run_bounds (P := P) hlo hhi (isS := true) (n := ([] : List (List PV)).length) (len := 0) (cap := cap) rfl (Nat.zero_le _) e2 e3
            simp at h1
            have hl : l = 0 := by omega
            subst h1; subst hl
            refine ⟨_, run_slice hT ht r, one (fun cs e => nomatch e) fun k j => ?_⟩
            have := CVRel.sh (X := X) (k := k) (j := j) f (.s es []) _ (.s0 (if cap = 0 then a else a.map (·.add (0 * es))) (cap - 0) es)
            simpa using this
          | s blk off n cap _ cc elem fr _ hv hb hn hcap hrr =>
            subst hn
            obtain ⟨r, h1, h2, _, _⟩ := run_bounds (P := P) hlo hhi (isS := true) (n := rows.length) (len := rows.length) (cap := cap) rfl hcap e2 e3
            refine ⟨_, run_slice hT ht r, one (fun cs e => nomatch e) fun k j => .sh f _ _ ?_⟩
            have hlen := cut_len h1 h2
            by_cases hcl : cap = l
            · rw [if_pos hcl]
              have : (rows.take hh).drop l = [] := List.eq_nil_of_length_eq_zero (by omega)
              rw [this, show hh - l = 0 from by omega]
              exact .s0 _ _ es
            · rw [if_neg hcl]
              simp only [Option.map_some, add_none]
              exact .s blk (off + l * es) (hh - l) (cap - l) es cc elem fr _ hv hb hlen.symm (by omega) (rows_cut hrr l hh)
    · simp at h
  · rename_i s o kd at_ f es rows
    split at h
    · rename_i ht
      obtain ⟨hh, e2, h⟩ := some_bind h
      cases e3 : bound lx hh 0 with
      | none => simp [e3] at h
      | some l =>
        simp only [e3, Option.map_some] at h
        injection h with h
        have hcv := hc 0
        cases hcv with
        | br0 _ _ _ _ _ _ a =>
          obtain ⟨r, h1, h2, _, _⟩ := run_bounds (P := P) hlo hhi (isS := true) (n := ([] : List (List PV)).length) (len := 0) (cap := 0) rfl (Nat.le_refl _) e2 e3
          simp at h1
          have hl : l = 0 := by omega
          subst h1; subst hl
          refine ⟨_, run_slice hT ht r, ?_⟩
          rw [← h]
          refine one (fun cs e => nomatch e) fun k j => ?_
          simpa using CVRel.br0 (X := X) (k := k) (j := j) s o _ _ f es a
        | br _ _ _ _ _ _ _ _ blk base tip cap cc elem fr hb =>
          obtain ⟨r, h1, h2, h3, h4⟩ := run_bounds (P := P) hlo hhi (isS := true) (n := rows.length) (len := rows.length) (cap := cap) rfl hb.le e2 e3
          have hlen := cut_len h1 h2
          have hle0 := hb.le
          rw [hb.val]
          refine ⟨_, run_slice hT ht r, ?_⟩
          rw [← h]
          refine one (fun cs e => nomatch e) fun k j => ?_
          by_cases hcl : cap = l
          · rw [if_pos hcl]
            have : (rows.take hh).drop l = [] := List.eq_nil_of_length_eq_zero (by omega)
            rw [this, show hh - l = 0 from by omega, show cap - l = 0 from by omega]
            exact .br0 s o _ _ f es _
          · rw [if_neg hcl]
            simp only [Option.map_some, add_none]
            have hle := hb.le
            have hfit := hb.fits
            have hmul : (at_ + l) * es = at_ * es + l * es := Nat.add_mul _ _ _
            have hcapm : (cap - l) * es + l * es = cap * es := by rw [← Nat.add_mul, Nat.sub_add_cancel (by omega)]
            refine .br s o _ (at_ + l) f es _ _ blk base tip (cap - l) cc elem fr ⟨?_, by rw [hlen]; omega, hb.own, hb.cells, by omega, hb.loose, by rw [hlen]; have := hb.tipLe; omega, ?_, ?_, ?_⟩
            · rw [hlen, hmul, ← Nat.add_assoc]
            · intro hk
              split at hk
              · omega
              · rename_i hns
                have hns' : hi = none := by
                  cases hi with
                  | none => rfl
                  | some u =>
                    obtain ⟨su, hsu, _⟩ := hhi.1 u rfl
                    exact absurd (Or.inl (by simp [hsu])) hns
                have hh' := h4 hns'
                have hk1 : kd ≤ 1 := by
                  by_cases hk2 : kd ≤ 1
                  · exact hk2
                  · exact absurd (.inr (by omega)) hns
                have := hb.tip1 hk1
                rw [hlen]; omega
            · intro hk
              split at hk
              · omega
              · split at hk
                · omega
                · rename_i hns hl
                  have hl' : lo = none := by
                    cases lo with
                    | none => rfl
                    | some u =>
                      obtain ⟨su, hsu, _⟩ := hlo.1 u rfl
                      exact absurd (by simp [hsu]) hl
                  have := hb.lo0 hk
                  have := h3 hl'
                  omega
            · rw [hmul, ← Nat.add_assoc]; exact rows_cut hb.reads l hh
        | brv _ _ _ _ _ _ _ hr =>
          have hkd : (if hx'.isSome = true ∨ (2:Nat) ≤ 2 then 2 else if lx.isSome = true then 1 else 2) = 2 := by simp
          rw [hkd] at h
          cases hr with
          | s0 a cap _ =>
            obtain ⟨r, h1, h2, _, _⟩ := run_bounds (P := P) hlo hhi (isS := true) (n := ([] : List (List PV)).length) (len := 0) (cap := cap) rfl (Nat.zero_le _) e2 e3
            simp at h1
            have hl : l = 0 := by omega
            subst h1; subst hl
            refine ⟨_, run_slice hT ht r, ?_⟩
            rw [← h]
            refine one (fun cs e => nomatch e) fun k j => .brv s o _ f es _ _ ?_
            have := Rd.s0 (h := X.w.heap) (V := X.V f) (if cap = 0 then a else a.map (·.add (0 * es))) (cap - 0) es
            simpa using this
          | s blk off n cap _ cc elem fr _ hv hb hn hcap hrr =>
            subst hn
            obtain ⟨r, h1, h2, _, _⟩ := run_bounds (P := P) hlo hhi (isS := true) (n := rows.length) (len := rows.length) (cap := cap) rfl hcap e2 e3
            refine ⟨_, run_slice hT ht r, ?_⟩
            rw [← h]
            refine one (fun cs e => nomatch e) fun k j => .brv s o _ f es _ _ ?_
            have hlen := cut_len h1 h2
            by_cases hcl : cap = l
            · rw [if_pos hcl]
              have : (rows.take hh).drop l = [] := List.eq_nil_of_length_eq_zero (by omega)
              rw [this, show hh - l = 0 from by omega]
              exact .s0 _ _ es
            · rw [if_neg hcl]
              simp only [Option.map_some, add_none]
              exact .s blk (off + l * es) (hh - l) (cap - l) es cc elem fr _ hv hb hlen.symm (by omega) (rows_cut hrr l hh)
    · simp at h
  · simp at h

theorem char_sv {P : Program} {T : Tys} (hT : TOk P T) {X : Ctx} {t : TypeId} {v vi : Value} {x ix y : SV} (hx : OSV X v x) (hix : OSV X vi ix) (h : charSV T t x ix = some y) : ∃ v', (Instr.index t v vi).run P X.w = .ok v' X.w ∧ OSV X v' y := by
  unfold charSV at h
  split at h
  · rename_i s k i hs hi
    have e1 := pv_val hx hs rfl
    have e2 := int_sv hix hi
    subst e1; subst e2
    split at h
    · rename_i hc
      cases e : s.data[i.toNat]? with
      | none => simp [e] at h
      | some b =>
        simp [e] at h; subst h
        refine ⟨.int .u8 (b.toNat : Int), ?_, pvSV_rel (p := .i .u8 (b.toNat : Int)) rfl⟩
        have hlt : i.toNat < s.data.size := (Array.getElem?_eq_some_iff.1 e).1
        have hb : s[i.toNat]? = some b := by
          have h2 := (Array.getElem?_eq_some_iff.1 e).2
          have hlt' : i.toNat < s.size := hlt
          rw [getElem?_pos s i.toNat hlt']
          exact congrArg some h2
        simp only [Instr.index, asIntOf, Sem.run_bind, Sem.run_pure, Result.andThen_ok, run_und (hT.str t hc.1), PV.val]
        rw [if_pos hc.2, hb]
        rfl
    · simp at h
  · simp at h

theorem len_sv {P : Program} {T : Tys} (hT : TOk P T) {X : Ctx} {v : Value} {x y : SV} {t ty : TypeId} (hx : OSV X v x) (h : lenSV T t x = some y) : ∃ v', (Builtin.len_ #[t] ty #[v]).run P X.w = .ok v' X.w ∧ OSV X v' y := by
  unfold lenSV at h
  split at h
  · rename_i s hp
    have e1 := pv_val hx hp rfl
    subst e1
    split at h
    · rename_i hs
      injection h with h; subst h
      exact ⟨.int .i64 s.size, by simp [Builtin.len_, run_und (hT.str t hs), goInt, PV.val], pvSV_rel (p := .i .i64 s.size) rfl⟩
    · simp at h
  · rename_i es rows hp
    obtain ⟨⟨V, hr⟩, _⟩ := pv_sv hx hp
    split at h
    · rename_i hs
      injection h with h; subst h
      obtain ⟨e, he⟩ := Option.isSome_iff_exists.1 hs
      have hu := hT.sl t e he
      refine ⟨.int .i64 rows.length, ?_, pvSV_rel (p := .i .i64 rows.length) rfl⟩
      cases hr with
      | s0 a cap _ => simp [Builtin.len_, run_und hu, goInt]
      | s blk off n cap _ c elem fr _ hv hb hn hcap hrr => subst hn; simp [Builtin.len_, run_und hu, goInt]
    · simp at h
  · simp at h

theorem min2_sv {P : Program} {X : Ctx} {v u : Value} {x y z : SV} (hx : OSV X v x) (hy : OSV X u y) (h : min2 x y = some z) : ∃ v', (Builtin.min2 v u).run P X.w = .ok v' X.w ∧ OSV X v' z := by
  unfold min2 at h
  split at h
  · rename_i k a k' b h1 h2
    have e1 := int_sv hx h1
    have e2 := int_sv hy h2
    subst e1; subst e2
    injection h with h; subst h
    exact ⟨.int k (if b < a then b else a), rfl, pvSV_rel (p := .i k (if b < a then b else a)) rfl⟩
  · simp at h
theorem max2_sv {P : Program} {X : Ctx} {v u : Value} {x y z : SV} (hx : OSV X v x) (hy : OSV X u y) (h : max2 x y = some z) : ∃ v', (Builtin.max2 v u).run P X.w = .ok v' X.w ∧ OSV X v' z := by
  unfold max2 at h
  split at h
  · rename_i k a k' b h1 h2
    have e1 := int_sv hx h1
    have e2 := int_sv hy h2
    subst e1; subst e2
    injection h with h; subst h
    exact ⟨.int k (if b > a then b else a), rfl, pvSV_rel (p := .i k (if b > a then b else a)) rfl⟩
  · simp at h

/-- Operands side by side. -/
inductive OSVs (X : Ctx) : List Value → List SV → Prop
  | nil : OSVs X [] []
  | cons (v : Value) (x : SV) (vs : List Value) (l : List SV) : OSV X v x → OSVs X vs l → OSVs X (v :: vs) (x :: l)

theorem fold_sv {P : Program} {X : Ctx} {g : SV → SV → Option SV} {m : Value → Value → Sem Value} (hg : ∀ v u x y z, OSV X v x → OSV X u y → g x y = some z → ∃ v', (m v u).run P X.w = .ok v' X.w ∧ OSV X v' z) :
    ∀ {vs : List Value} {l : List SV} {v : Value} {x y : SV}, OSVs X vs l → OSV X v x → foldSV g x l = some y → ∃ v', (vs.foldlM m v).run P X.w = .ok v' X.w ∧ OSV X v' y
  | _, _, v, x, y, .nil, hx, h => by
    simp only [foldSV] at h; injection h with h; subst h
    exact ⟨v, rfl, hx⟩
  | _, _, v, x, y, .cons u z vs l hu ht, hx, h => by
    simp only [foldSV] at h
    obtain ⟨q, h1, h2⟩ := some_bind h
    obtain ⟨v1, r1, o1⟩ := hg _ _ _ _ _ hx hu h1
    obtain ⟨v2, r2, o2⟩ := fold_sv hg ht o1 h2
    refine ⟨v2, ?_, o2⟩
    simp only [List.foldlM_cons, Sem.run_bind, r1, Result.andThen_ok]
    exact r2

end Go.Proofs.Ytlbigobmhglppaa.R
