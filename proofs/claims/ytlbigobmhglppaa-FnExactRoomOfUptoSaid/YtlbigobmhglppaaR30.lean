/- The code of a function. -/
import Derived.Test.YtlbigobmhglppaaR29
set_option linter.unusedVariables false
set_option linter.unusedSimpArgs false
namespace Go.Proofs.Ytlbigobmhglppaa.R
open Go

theorem good_drawn {X : Ctx} {vs : List Value} {σ : St} {E : Nat → Nat → Prop} (h : Good X vs σ E) (n : Nat) : Good (X.turned { X.w with drawn := n }) vs σ E :=
  have hm : Mono X (X.turned { X.w with drawn := n }) := ⟨fun f b h => ⟨h, rfl⟩, fun b t h => ⟨h, rfl⟩⟩
  ⟨turned_inv h.inv rfl, h.frame.mono hm, h.tags.cell, h.tags.box⟩
theorem goes_drawn (X : Ctx) (n : Nat) : Goes X (X.turned { X.w with drawn := n }) :=
  ⟨rfl, rfl, rfl, Nat.le_refl _, fun _ _ _ => rfl, rfl, fun _ h => h, fun _ h => .inl h, fun _ h => .inl h⟩

def exOf : Ex → Exit
  | .normal => .normal
  | .exit i => .exit i
  | .ret => .ret

theorem tidy1_ok {X : Ctx} {vs : List Value} {σ : St} (hg : Good X vs σ NoE) {d : Nat} (hd : d < σ.length) : ∃ X', X'.w = X.w ∧ Goes X X' ∧ Good X' vs ((clear d σ).set d .undef) NoE := by
  obtain ⟨X1, C⟩ := clear_good hg d
  have hdl : d < (clear d σ).length := by rw [C.size]; exact hd
  have hdv : d < vs.length := by rw [hg.frame.1]; exact hd
  have hE := eff_pure C.good ⟨C.free, C.noBox, C.noOw, C.noBx⟩ hdl (PureRes.same C.good.inv (v := vs[d]) (sv := .undef) fun k => .undef _)
  refine ⟨X1, C.w, C.goes, ?_⟩
  have := hE.good
  rw [List.set_getElem_self] at this
  exact this

theorem tidy_ok {N : Nat} : ∀ (l : List Nat) {X : Ctx} {vs : List Value} {σ : St}, Good X vs σ NoE → N ≤ σ.length → ∃ X', X'.w = X.w ∧ Goes X X' ∧ Good X' vs (tidy N l σ) NoE
  | [], X, vs, σ, hg, _ => ⟨X, rfl, .refl X, hg⟩
  | d :: l, X, vs, σ, hg, hN => by
    simp only [tidy]
    split
    · rename_i hd
      obtain ⟨X1, hw, G, hg1⟩ := tidy1_ok hg (Nat.lt_of_lt_of_le hd hN)
      obtain ⟨X2, hw2, G2, hg2⟩ := tidy_ok l hg1 (by rw [← hg1.frame.1, hg.frame.1]; exact hN)
      exact ⟨X2, hw2.trans hw, G.trans G2, hg2⟩
    · exact tidy_ok l hg hN

section
variable {P : Program} {E : Env} {call : CallF} {N : Nat} {gv : List Value}

theorem region_ok (hT : TOk P E.T) (hcall : CallOk P call) (hm : P.follows .mixedOrders = true) {id : Nat} {ops : Array Oper} {draw : Bool} {n : Nat} {X : Ctx} {a : Act} {σ : St} {r : Ex × St} {Q : Exit → Act → World → Prop} (hg : Good X (All a gv) σ NoE) (hN : N = a.tmps.size)
    (h : runCode E call N n (.region id ops draw) σ = some r) (hQ : ∀ a' X', Goes X X' → Good X' (All a' gv) r.2 NoE → a'.tmps.size = N → a'.defers = a.defers → Q (exOf r.1) a' X'.w) : (Code.region id ops draw).wp P Q a X.w := by
  simp only [runCode] at h
  cases draw with
  | false =>
    simp only [Bool.false_eq_true, if_false] at h
    obtain ⟨σ', h1, rfl⟩ := some_map h
    exact wp_region (runOps_ok hT hcall hg hN h1 hQ)
  | true =>
    simp only [if_true] at h
    split at h
    case isFalse => simp at h
    rename_i hap
    obtain ⟨σ', h1, rfl⟩ := some_map h
    rw [List.range_eq_range'] at h1
    obtain ⟨τ, e1, e2, hTr⟩ := trace_of ops.size 0 h1
    rw [Nat.zero_add] at e2 hTr
    refine wp_region_any hm ?_
    have hM : Mid ops τ (Array.replicate ops.size false) σ := by
      have hno : ∀ i, (Array.replicate ops.size false).getD i false = true → False := fun i hi => by
        by_cases hlt : i < ops.size
        · simp [hlt] at hi
        · simp [hlt] at hi
      exact ⟨by simp, by rw [e1], fun i o hi => (hno i hi).elim, fun t j hj => (hno j hj).elim, fun t _ => by rw [e1]⟩
    have := any_ok (gv := gv) (Q := Q) hT hcall hTr (apart_of hap) ops.size (U := List.range ops.size) (X := X.turned { X.w with drawn := X.w.drawn + 1 }) hM List.nodup_range (fun i hi _ => List.mem_range.2 hi) (by simp) (good_drawn hg _) hN
      (fun a' X' G hg' hs hd => hQ a' X' ((goes_drawn X _).trans G) (by rw [e2] at hg'; exact hg') hs hd)
    exact this

theorem loop_ok {c : Code} {f : St → Option (Ex × St)} (hc : ∀ {X : Ctx} {a : Act} {σ : St} {r : Ex × St} {Q : Exit → Act → World → Prop}, Good X (All a gv) σ NoE → N = a.tmps.size → f σ = some r →
      (∀ a' X', Goes X X' → Good X' (All a' gv) r.2 NoE → a'.tmps.size = N → a'.defers = a.defers → Q (exOf r.1) a' X'.w) → c.wp P Q a X.w) :
    ∀ (n : Nat) {X : Ctx} {a : Act} {σ : St} {r : Ex × St} {Q : Exit → Act → World → Prop}, Good X (All a gv) σ NoE → N = a.tmps.size → iter f n σ = some r →
      (∀ a' X', Goes X X' → Good X' (All a' gv) r.2 NoE → a'.tmps.size = N → a'.defers = a.defers → Q (exOf r.1) a' X'.w) → ∀ (b : Go.Frame) (k : List Item) (cs : List Go.Frame),
        ∃ e a' w', Q e a' w' ∧ Arrives P (lone (b.at a (.code c :: .inLoop c :: k)) cs X.w) b k cs e a' w'
  | 0, X, a, σ, r, Q, hg, hN, h, hQ, b, k, cs => by simp [iter] at h
  | n + 1, X, a, σ, r, Q, hg, hN, h, hQ, b, k, cs => by
    simp only [iter] at h
    obtain ⟨⟨e, σ1⟩, h1, h2⟩ := some_bind h
    let Q1 : Exit → Act → World → Prop := fun e' a' w' => e' = exOf e ∧ ∃ X', X'.w = w' ∧ Goes X X' ∧ Good X' (All a' gv) σ1 NoE ∧ a'.tmps.size = N ∧ a'.defers = a.defers
    obtain ⟨e', a₁, w₁, ⟨he, X', hw, G, hg', hs, hd⟩, harr⟩ := hc (Q := Q1) hg hN h1 (fun a' X' G hg' hs hd => ⟨rfl, X', rfl, G, hg', hs, hd⟩) b (.inLoop c :: k) cs
    subst hw
    cases e with
    | normal =>
      simp only [exOf] at he
      subst he
      simp only at h2
      obtain ⟨e₂, a₂, w₂, hq₂, harr₂⟩ := loop_ok hc n hg' hs.symm h2 (fun a'' X'' G' hg'' hs' hd' => hQ a'' X'' (G.trans G') hg'' hs' (hd'.trans hd)) b k cs
      exact ⟨e₂, a₂, w₂, hq₂, .of_steps (Steps.trans harr (.one step_inLoop)) harr₂⟩
    | exit id =>
      simp only [exOf] at he
      subst he
      simp only at h2
      injection h2 with h2; subst h2
      exact ⟨_, a₁, X'.w, hQ a₁ X' G hg' hs hd, .pass (x := .inLoop c) rfl (fun _ _ => .inl (by simp [exOf])) harr⟩
    | ret =>
      simp only [exOf] at he
      subst he
      simp only at h2
      injection h2 with h2; subst h2
      exact ⟨_, a₁, X'.w, hQ a₁ X' G hg' hs hd, .pass (x := .inLoop c) rfl (fun _ _ => .inl (by simp [exOf])) harr⟩

theorem code_ok (hT : TOk P E.T) (hcall : CallOk P call) (hm : P.follows .mixedOrders = true) {n : Nat} : ∀ (c : Code) {X : Ctx} {a : Act} {σ : St} {r : Ex × St} {Q : Exit → Act → World → Prop}, Good X (All a gv) σ NoE → N = a.tmps.size → runCode E call N n c σ = some r →
    (∀ a' X', Goes X X' → Good X' (All a' gv) r.2 NoE → a'.tmps.size = N → a'.defers = a.defers → Q (exOf r.1) a' X'.w) → c.wp P Q a X.w
  | .skip, X, a, σ, r, Q, hg, hN, h, hQ => by
    simp only [runCode] at h; injection h with h; subst h
    exact wp_skip (hQ a X (.refl X) hg hN.symm rfl)
  | .label l, X, a, σ, r, Q, hg, hN, h, hQ => by
    simp only [runCode] at h; injection h with h; subst h
    exact wp_label (hQ a X (.refl X) hg hN.symm rfl)
  | .region id ops draw, X, a, σ, r, Q, hg, hN, h, hQ => region_ok hT hcall hm hg hN h hQ
  | .seq x y, X, a, σ, r, Q, hg, hN, h, hQ => by
    simp only [runCode] at h
    obtain ⟨⟨e, σ1⟩, h1, h2⟩ := some_bind h
    refine wp_seq (code_ok hT hcall hm x hg hN h1 fun a' X' G hg' hs hd => ?_)
    cases e with
    | normal => exact code_ok hT hcall hm y hg' hs.symm h2 fun a'' X'' G' hg'' hs' hd' => hQ a'' X'' (G.trans G') hg'' hs' (hd'.trans hd)
    | exit id => simp only at h2; injection h2 with h2; subst h2; exact hQ a' X' G hg' hs hd
    | ret => simp only at h2; injection h2 with h2; subst h2; exact hQ a' X' G hg' hs hd
  | .cond c x y, X, a, σ, r, Q, hg, hN, h, hQ => by
    simp only [runCode] at h
    obtain ⟨t, h1, h2⟩ := some_bind h
    refine wp_cond (t := t) (bool_sv (opd_sv hg hN c) h1) ?_
    cases t with
    | true => exact code_ok hT hcall hm x hg hN (by simpa using h2) hQ
    | false => exact code_ok hT hcall hm y hg hN (by simpa using h2) hQ
  | .block id b, X, a, σ, r, Q, hg, hN, h, hQ => by
    simp only [runCode] at h
    obtain ⟨⟨e, σ1⟩, h1, h2⟩ := some_map h
    refine wp_block (code_ok hT hcall hm b hg hN h1 fun a' X' G hg' hs hd => ?_)
    cases e with
    | normal => subst h2; exact hQ a' X' G hg' hs hd
    | ret => subst h2; exact hQ a' X' G hg' hs hd
    | exit i =>
      simp only [exOf, Exit.inBlock]
      by_cases hi : i = id
      · simp only [if_pos hi] at h2 ⊢
        subst h2; exact hQ a' X' G hg' hs hd
      · simp only [if_neg hi] at h2 ⊢
        subst h2; exact hQ a' X' G hg' hs hd
  | .loop b, X, a, σ, r, Q, hg, hN, h, hQ => by
    simp only [runCode] at h
    intro fr k cs
    obtain ⟨e, a', w', hq, harr⟩ := loop_ok (P := P) (gv := gv) (N := N) (c := b) (fun {X a σ r Q} hg hN h hQ => by
      obtain ⟨X1, hw, G, hg1⟩ := tidy_ok (N := N) (E.D (firstId b)) hg (by rw [← hg.frame.1]; unfold All; rw [List.length_append, Array.length_toList]; omega)
      rw [← hw]
      exact code_ok hT hcall hm b hg1 hN h fun a' X' G' hg' hs hd => hQ a' X' (G.trans G') hg' hs hd) n hg hN h hQ fr k cs
    exact ⟨e, a', w', hq, .of_steps (.one step_loop) harr⟩
  | .exit id, X, a, σ, r, Q, hg, hN, h, hQ => by
    simp only [runCode] at h; injection h with h; subst h
    exact wp_exit (hQ a X (.refl X) hg hN.symm rfl)
  | .ret, X, a, σ, r, Q, hg, hN, h, hQ => by
    simp only [runCode] at h; injection h with h; subst h
    exact wp_ret (hQ a X (.refl X) hg hN.symm rfl)
  | .rangeFunc _ _ _ _, X, a, σ, r, Q, hg, hN, h, hQ => by simp [runCode] at h
  | .scope _, X, a, σ, r, Q, hg, hN, h, hQ => by simp [runCode] at h
  | .goto _, X, a, σ, r, Q, hg, hN, h, hQ => by simp [runCode] at h
  | .refuse _, X, a, σ, r, Q, hg, hN, h, hQ => by simp [runCode] at h

end
end Go.Proofs.Ytlbigobmhglppaa.R
