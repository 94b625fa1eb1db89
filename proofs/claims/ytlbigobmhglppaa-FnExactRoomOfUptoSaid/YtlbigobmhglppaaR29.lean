/- Operations in whatever order come to the same. -/
import Derived.Test.YtlbigobmhglppaaR28
set_option linter.unusedVariables false
set_option linter.unusedSimpArgs false
namespace Go.Proofs.Ytlbigobmhglppaa.R
open Go

section
variable {E : Env} {call : CallF} {N : Nat} {ops : Array Oper} {τ : Nat → St}

theorem dstOf_of {i d : Nat} {o : Oper} (h : ops[i]? = some o) (hd : o.dst = some d) : dstOf ops i = some d := by simp [dstOf, h, hd]
theorem dstOf_inv {i d : Nat} (h : dstOf ops i = some d) : ∃ o, ops[i]? = some o ∧ o.dst = some d := by
  unfold dstOf at h
  exact some_bind h
theorem dst_inj (hA : Apart ops) {i j d : Nat} (h : dstOf ops i = some d) (h' : dstOf ops j = some d) : i = j := by
  obtain ⟨x, hx, hdx⟩ := dstOf_inv h
  obtain ⟨y, hy, hdy⟩ := dstOf_inv h'
  by_cases e : i = j
  · exact e
  · exact absurd hdx (hA.ne i j x y d hx hy e hdy)

theorem trace_len (hT : Trace E call N ops 0 ops.size τ) : ∀ i, i ≤ ops.size → (τ i).length = (τ 0).length
  | 0, _ => rfl
  | i + 1, h => by
    obtain ⟨o, w, v, d, _, _, _, _, _, _, _, _, e⟩ := hT.step i (Nat.zero_le _) (by omega)
    rw [e, List.length_set]
    exact trace_len hT i (by omega)

/-- Ahead of its writer a slot is as at the beginning. -/
theorem trace_before (hT : Trace E call N ops 0 ops.size τ) {t : Nat} : ∀ i, i ≤ ops.size → (∀ j, j < i → dstOf ops j ≠ some t) → (τ i)[t]? = (τ 0)[t]?
  | 0, _, _ => rfl
  | i + 1, h, hn => by
    obtain ⟨o, w, v, d, ho, _, hd, _, _, _, _, _, e⟩ := hT.step i (Nat.zero_le _) (by omega)
    have hne : d ≠ t := fun e1 => hn i (by omega) (by subst e1; exact dstOf_of ho hd)
    rw [e, List.getElem?_set_ne hne]
    exact trace_before hT i (by omega) fun j hj => hn j (by omega)

/-- Behind its writer a slot stays. -/
theorem trace_after (hT : Trace E call N ops 0 ops.size τ) (hA : Apart ops) {t j : Nat} (hj : dstOf ops j = some t) : ∀ (m : Nat), j + 1 + m ≤ ops.size → (τ (j + 1 + m))[t]? = (τ (j + 1))[t]?
  | 0, _ => rfl
  | m + 1, h => by
    obtain ⟨o, w, v, d, ho, _, hd, _, _, _, _, _, e⟩ := hT.step (j + 1 + m) (Nat.zero_le _) (by omega)
    have hne : d ≠ t := fun e1 => by
      subst e1
      have := dst_inj hA (dstOf_of ho hd) hj
      omega
    have e2 : j + 1 + (m + 1) = j + 1 + m + 1 := by omega
    rw [e2, e, List.getElem?_set_ne hne]
    exact trace_after hT hA hj m (by omega)

theorem trace_after' (hT : Trace E call N ops 0 ops.size τ) (hA : Apart ops) {t j i : Nat} (hj : dstOf ops j = some t) (hi : j < i) (hn : i ≤ ops.size) : (τ i)[t]? = (τ ops.size)[t]? := by
  have h1 := trace_after hT hA hj (i - (j + 1)) (by omega)
  have h2 := trace_after hT hA hj (ops.size - (j + 1)) (by omega)
  rw [show j + 1 + (i - (j + 1)) = i from by omega] at h1
  rw [show j + 1 + (ops.size - (j + 1)) = ops.size from by omega] at h2
  rw [h1, h2]

theorem trace_val (hT : Trace E call N ops 0 ops.size τ) (hA : Apart ops) {i d : Nat} {v : SV} (hi : i < ops.size) (hd : dstOf ops i = some d) (e : τ (i + 1) = (τ i).set d v) (hlt : d < (τ 0).length) : (τ ops.size)[d]? = some v := by
  rw [← trace_after' hT hA hd (Nat.lt_succ_self i) hi, e, List.getElem?_set_self (by rw [trace_len hT i (by omega)]; exact hlt)]

/-- Where the operations 'listed' have been carried out. -/
structure Mid (ops : Array Oper) (τ : Nat → St) (listed : Array Bool) (σ : St) : Prop where
  size : listed.size = ops.size
  len : σ.length = (τ 0).length
  closed : ∀ (i : Nat) (o : Oper), listed.getD i false = true → ops[i]? = some o → ∀ e ∈ o.after, Region.binds .any e = true → listed.getD e.on false = true
  done : ∀ (t j : Nat), listed.getD j false = true → dstOf ops j = some t → σ[t]? = (τ ops.size)[t]?
  rest : ∀ (t : Nat), (∀ j, listed.getD j false = true → dstOf ops j ≠ some t) → σ[t]? = (τ 0)[t]?

theorem getD_sets {listed : Array Bool} {i j : Nat} (h : (listed.setIfInBounds i true).getD j false = true) : j = i ∨ listed.getD j false = true := by
  by_cases e : i = j
  · exact .inl e.symm
  · rw [getD_set_ne false e] at h; exact .inr h

theorem mid_end (hT : Trace E call N ops 0 ops.size τ) {listed : Array Bool} {σ : St} (M : Mid ops τ listed σ) (h : ∀ i, i < ops.size → listed.getD i false = true) : σ = τ ops.size := by
  apply List.ext_getElem?
  intro t
  by_cases hx : ∃ j, dstOf ops j = some t
  · obtain ⟨j, hj⟩ := hx
    obtain ⟨o, ho, _⟩ := dstOf_inv hj
    exact M.done t j (h j (Array.getElem?_eq_some_iff.1 ho).1) hj
  · have hn : ∀ j, dstOf ops j ≠ some t := fun j e => hx ⟨j, e⟩
    rw [M.rest t fun j _ => hn j, trace_before hT ops.size (Nat.le_refl _) fun j _ => hn j]

theorem getD_of {σ σ' : St} {t : Nat} (h : σ[t]? = σ'[t]?) : σ.getD t .undef = σ'.getD t .undef := by
  rw [List.getD_eq_getElem?_getD, List.getD_eq_getElem?_getD, h]

/-- What operation i looks at is as it was in turn. -/
theorem mid_look (hT : Trace E call N ops 0 ops.size τ) (hA : Apart ops) {listed : Array Bool} {σ : St} (M : Mid ops τ listed σ) {i : Nat} {x : Oper} (hx : ops[i]? = some x) (hun : listed.getD i false = false)
    (hr : ∀ e ∈ x.after, Region.binds .any e = true → listed.getD e.on false = true) {t : Nat} (hl : t ∈ x.looksAt ops ∨ x.dst = some t ∨ ∀ j, dstOf ops j ≠ some t) : (τ i)[t]? = σ[t]? := by
  have hi : i < ops.size := (Array.getElem?_eq_some_iff.1 hx).1
  have hlater : ∀ j, dstOf ops j = some t → i ≤ j → listed.getD j false = false → (τ i)[t]? = σ[t]? := fun j hj hij hnj => by
    rw [trace_before hT i (by omega) fun j' h' e => by have := dst_inj hA e hj; omega, M.rest t fun j' h' e => by
      have := dst_inj hA e hj
      subst this
      rw [hnj] at h'; simp at h']
  by_cases hex : ∃ j, dstOf ops j = some t
  case neg =>
    have hn : ∀ j, dstOf ops j ≠ some t := fun j e => hex ⟨j, e⟩
    rw [trace_before hT i (by omega) fun j _ => hn j, M.rest t fun j _ => hn j]
  obtain ⟨j, hj⟩ := hex
  obtain ⟨y, hy, hdy⟩ := dstOf_inv hj
  by_cases hij : i = j
  · subst hij; exact hlater i hj (Nat.le_refl _) hun
  rcases hl with hl | hl | hl
  · rcases hA.look i j x y t hx hy hij hdy hl with h1 | h1
    · unfold waits at h1
      obtain ⟨e, he, hb⟩ := Array.any_eq_true'.1 h1
      simp only [Bool.and_eq_true, beq_iff_eq] at hb
      have hlj := hr e he hb.1
      rw [hb.2] at hlj
      have hlt := hA.edge i x hx e he hb.1
      rw [hb.2] at hlt
      rw [M.done t j hlj hj, trace_after' hT hA hj hlt (by omega)]
    · unfold waits at h1
      obtain ⟨e, he, hb⟩ := Array.any_eq_true'.1 h1
      simp only [Bool.and_eq_true, beq_iff_eq] at hb
      have hlt := hA.edge j y hy e he hb.1
      rw [hb.2] at hlt
      refine hlater j hj (by omega) ?_
      cases hc : listed.getD j false with
      | false => rfl
      | true =>
        have := M.closed j y hc hy e he hb.1
        rw [hb.2, hun] at this; simp at this
  · exact absurd (dst_inj hA (dstOf_of hx hl) hj) hij
  · exact absurd hj (hl j)

theorem plain_notBox {x : SV} (h : plain x = true) : ∀ l, x ≠ .c .box l := fun l e => by subst e; simp [plain] at h

/-- A variable's slot is no operation's. -/
theorem mid_box (hT : Trace E call N ops 0 ops.size τ) (hA : Apart ops) {i s : Nat} (hi : i ≤ ops.size) {l : List CV} (h : (τ i).getD s .undef = .c .box l) : ∀ j, dstOf ops j ≠ some s := fun j hj => by
  obtain ⟨y, hy, hdy⟩ := dstOf_inv hj
  have hjn : j < ops.size := (Array.getElem?_eq_some_iff.1 hy).1
  obtain ⟨o, w, v, d, ho, _, hd, _, hp, _, _, hnb, e⟩ := hT.step j (Nat.zero_le _) hjn
  have hds : d = s := by have := (dstOf_of ho hd).symm.trans hj; injection this
  subst hds
  by_cases hij : j < i
  · by_cases hlt : d < (τ 0).length
    · have h1 : (τ i)[d]? = some v := by
        rw [trace_after' hT hA hj hij hi]
        exact trace_val hT hA hjn hj e hlt
      rw [List.getD_eq_getElem?_getD, h1] at h
      simp at h
      subst h
      simp [isBox] at hnb
    · rw [List.getD_eq_getElem?_getD, List.getElem?_eq_none (by rw [trace_len hT i hi]; exact Nat.le_of_not_lt hlt)] at h
      simp at h
  · have h1 : (τ i)[d]? = (τ j)[d]? := by
      rw [trace_before hT i hi fun j' h' e => by have := dst_inj hA e hj; omega, trace_before hT j (by omega) fun j' h' e => by have := dst_inj hA e hj; omega]
    rw [getD_of h1] at h
    exact plain_notBox hp l h

theorem plain_noOw {σ : St} {d p : Nat} (h : plain (σ.getD d .undef) = true) : (cellAt σ d p).isOw = false := by
  unfold cellAt
  generalize σ.getD d .undef = x at h
  cases x with
  | c sh l =>
    have : ∀ c ∈ l, c.isOw = false := fun c hc => by
      cases sh with
      | box => simp [plain] at h
      | _ => simp only [plain, List.all_eq_true, Bool.not_eq_true'] at h; exact h c hc
    cases e : l[p]? with
    | none => simp [List.getD_eq_getElem?_getD, e, CV.isOw]
    | some c => simp [List.getD_eq_getElem?_getD, e]; exact this c (List.mem_of_getElem? e)
  | _ => rfl

theorem plain_bare {X : Ctx} {vs : List Value} {σ : St} (hg : Good X vs σ NoE) {d : Nat} (h : plain (σ.getD d .undef) = true) : Bare X σ d := by
  have hbx : ∀ l, σ[d]? ≠ some (.c .box l) := fun l e => plain_notBox h l (by rw [List.getD_eq_getElem?_getD, e]; rfl)
  refine ⟨fun p => free_of hg (plain_noOw h), fun b base tip e => ?_, fun p => plain_noOw h, hbx⟩
  obtain ⟨l, hl⟩ := hg.tags.box _ _ _ _ e
  exact hbx l hl

theorem getD_bool {listed : Array Bool} {i : Nat} (h : i < listed.size) : listed.getD i true = listed.getD i false := by simp [h]

theorem any_ok {P : Program} (hTO : TOk P E.T) (hcall : CallOk P call) (hT : Trace E call N ops 0 ops.size τ) (hA : Apart ops) {gv : List Value} {Q : Exit → Act → World → Prop} : ∀ (fuel : Nat) {listed : Array Bool} {U : List Nat} {X : Ctx} {a : Act} {σ : St}, Mid ops τ listed σ → U.Nodup → (∀ i, i < ops.size → listed.getD i false = false → i ∈ U) → U.length ≤ fuel →
    Good X (All a gv) σ NoE → N = a.tmps.size → (∀ a' X', Goes X X' → Good X' (All a' gv) (τ ops.size) NoE → a'.tmps.size = N → a'.defers = a.defers → Q .normal a' X'.w) → wpAny P .any ops Q fuel listed a X.w := by
  intro fuel
  induction fuel with
  | zero =>
    intro listed U X a σ M hnd hU hlen hg hN hQ
    have hall : ∀ i, i < ops.size → listed.getD i false = true := fun i hi => by
      cases h : listed.getD i false with
      | true => rfl
      | false =>
        have := hU i hi h
        have h0 : U = [] := List.length_eq_zero_iff.1 (by omega)
        rw [h0] at this; simp at this
    refine ⟨?_, ?_⟩
    · cases hr : Region.ready .any ops listed with
      | nil => rfl
      | cons i l =>
        have hm : i ∈ Region.ready .any ops listed := by rw [hr]; simp
        obtain ⟨h1, o, ho, _⟩ := mem_ready.1 hm
        have hi := (Array.getElem?_eq_some_iff.1 ho).1
        rw [getD_bool (by rw [M.size]; exact hi), hall i hi] at h1
        simp at h1
    · exact hQ a X (.refl X) (mid_end hT M hall ▸ hg) hN.symm rfl
  | succ fuel ih =>
    intro listed U X a σ M hnd hU hlen hg hN hQ
    refine ⟨fun hr => ?_, fun i hm => ?_⟩
    · have hall : ∀ i, i < ops.size → listed.getD i false = true := by
        intro i
        induction i using Nat.strongRecOn with
        | _ i ih' =>
          intro hi
          cases h : listed.getD i false with
          | true => rfl
          | false =>
            have : i ∈ Region.ready .any ops listed := mem_ready.2 ⟨by rw [getD_bool (by rw [M.size]; exact hi)]; exact h, _, Array.getElem?_eq_getElem hi, fun e he hb => by
              have hlt := hA.edge i _ (Array.getElem?_eq_getElem hi) e he hb
              exact ih' e.on hlt (by omega)⟩
            rw [hr] at this; simp at this
      exact hQ a X (.refl X) (mid_end hT M hall ▸ hg) hN.symm rfl
    · obtain ⟨h1, x, hx, hed⟩ := mem_ready.1 hm
      have hi := (Array.getElem?_eq_some_iff.1 hx).1
      rw [getD_bool (by rw [M.size]; exact hi)] at h1
      obtain ⟨o, w, v, d, ho, hw, hd, hdN, hp, hv1, hv2, hnb, e⟩ := hT.step i (Nat.zero_le _) hi
      have hxo : x = o := by rw [hx] at ho; injection ho
      subst hxo
      have hlook : ∀ t, (t ∈ x.looksAt ops ∨ x.dst = some t ∨ ∀ j, dstOf ops j ≠ some t) → (τ i)[t]? = σ[t]? := fun t hl => mid_look hT hA M hx h1 hed hl
      have hwσ : wantedSt N ops x σ = some w := by
        rw [← hw]
        exact (wantedSt_congr fun t ht => getD_of (hlook t (.inl (List.mem_append_right _ ht)))).symm
      have hpσ : plain (σ.getD d .undef) = true := by rw [← getD_of (hlook d (.inr (.inl hd)))]; exact hp
      have hb := plain_bare hg hpσ
      have hdl : d < σ.length := Nat.lt_of_lt_of_le hdN (by
        rw [← hg.frame.1]; unfold All; rw [List.length_append, Array.length_toList]; omega)
      have hval := trace_val hT hA hi (dstOf_of hx hd) e (by rw [← M.len]; exact hdl)
      have hsz : i < listed.size := by rw [M.size]; exact hi
      have hM' : Mid ops τ (listed.setIfInBounds i true) (σ.set d v) := by
        refine ⟨by simp [M.size], by simp [M.len], fun k o' hk ho' ed hed' hbd => ?_, fun t j hj hdt => ?_, fun t hn => ?_⟩
        · rcases getD_sets hk with hk | hk
          · subst hk
            rw [hx] at ho'; injection ho' with ho'; subst ho'
            exact getD_set_true (hed ed hed' hbd)
          · exact getD_set_true (M.closed k o' hk ho' ed hed' hbd)
        · rcases getD_sets hj with hj2 | hj2
          · subst hj2
            have : t = d := by have := hdt.symm.trans (dstOf_of hx hd); injection this
            subst this
            rw [List.getElem?_set_self hdl, hval]
          · have hne : d ≠ t := fun e1 => by
              subst e1
              have := dst_inj hA hdt (dstOf_of hx hd)
              rw [this, h1] at hj2; simp at hj2
            rw [List.getElem?_set_ne hne]
            exact M.done t j hj2 hdt
        · have hne : d ≠ t := fun e1 => by
            subst e1
            refine hn i ?_ (dstOf_of hx hd)
            simp [hsz]
          rw [List.getElem?_set_ne hne]
          exact M.rest t fun j hj => hn j (getD_set_true hj)
      have hU' : ∀ k, k < ops.size → (listed.setIfInBounds i true).getD k false = false → k ∈ U.erase i := fun k hk hl => by
        have hki : k ≠ i := fun e1 => by subst e1; simp [hsz] at hl
        rw [getD_set_ne false (Ne.symm hki)] at hl
        exact (List.mem_erase_of_ne hki).2 (hU k hk hl)
      have hlen' : (U.erase i).length ≤ fuel := by
        rw [List.length_erase_of_mem (hU i hi h1)]; omega
      have hK : ∀ u X', Eff X X' (All a gv) σ d u v → wpAny P .any ops Q fuel (listed.setIfInBounds i true) (a.put x.dst u) X'.w := fun u X' hE => by
        refine ih hM' (hnd.erase i) hU' hlen' ?_ (by rw [put_size]; exact hN) fun a' X'' G hg' hs hdf => hQ a' X'' (hE.goes.trans G) hg' hs (hdf.trans (put_defers a x.dst u))
        rw [hd, all_put (hN ▸ hdN)]
        exact hE.good
      unfold wpOp
      simp only [hx]
      rw [wanted_ok hg hN hwσ]
      cases w with
      | false =>
        simp only [Bool.false_eq_true, if_false]
        have hv := hv2 rfl
        subst hv
        exact hK undef X (eff_pure hg hb hdl (PureRes.same hg.inv (v := undef) (sv := .undef) fun k => .undef _))
      | true =>
        simp only [if_true]
        have hpσ2 : pureOp E call N x σ = some v := by
          refine pureOp_congr (fun y hy => opd_congr fun t ht => ?_) (fun s l hs => ?_) (hv1 rfl)
          · refine getD_of (hlook t (.inl (List.mem_append_left _ ?_)))
            subst ht
            exact List.mem_filterMap.2 ⟨.tmp t, by simpa using hy, rfl⟩
          · have hn := mid_box hT hA (by omega) hs
            rw [← getD_of (hlook s (.inr (.inr hn)))]
            exact hs
        left
        unfold Oper.wp
        cases hc : isCall x with
        | false =>
          obtain ⟨u, X', hr, q⟩ := pure_run (P := P) hTO hg hN (hb.1 0) hpσ2 hc
          rw [hr, Oper.upon_value]
          exact hK u X' (eff_pure hg hb hdl q)
        | true =>
          obtain ⟨c, f, ho', hcal⟩ := isCall_op hc
          obtain ⟨g, args, e1, hL⟩ := pure_call hcall hg hN hb.no hpσ2 ho' hcal
          rw [e1]
          refine lands_upon (lands_mono hL ?_)
          rintro u w' ⟨X', rfl, q⟩
          exact hK u X' (eff_pure hg hb hdl q)

end
end Go.Proofs.Ytlbigobmhglppaa.R
