/- Walking the evaluator: calls. -/
import Derived.Test.YtlbigobmhglppaaS2
set_option linter.unusedVariables false
set_option linter.unusedSimpArgs false
namespace Go.Proofs.Ytlbigobmhglppaa.R
open Go

/-- What a call with no variable handed on leaves. -/
def retIn (σ : St) (q : List SV × List (Nat × Nat) × Bool) (r : Ret) : Option (St × SV) :=
  if r.boxes.length = 0 ∧ isRes r.res = true ∧ r.res.cells.all noBr = true then
    some (if r.res.cells.any CV.flag then back [] q.2.1 true σ else σ, r.res.reflag q.2.2) else none

/-- A call of a Go function, either way. -/
def callAny (E : Env) (call : CallF) (N : Nat) (ty : TypeId) (σ : St) (f : Operand) (xs : List Operand) : Option (St × SV) :=
  match opd E.T N ty σ f with
  | .fn g [] => if ((xs.map (opd E.T N ty σ)).flatMap ghostsOf).isEmpty then (lendArgs 0 (xs.map (opd E.T N ty σ))).bind fun q => (call g q.1 []).bind fun r => retIn σ q r
      else callSt E call N ty σ f xs
  | _ => callSt E call N ty σ f xs

theorem mapAll_same {g : Nat → CV → CV} (h : ∀ j c, g j c = c) : ∀ (j : Nat) (l : List CV), mapAll g j l = l
  | _, [] => rfl
  | j, c :: l => by rw [mapAll, h, mapAll_same h]
theorem mapC_id {g : Nat → CV → CV} {e : EpMap} (h : ∀ j c, g j c = c) (he : ∀ a b, e a b = some (a, b)) (x : SV) : x.mapC g e = x := by
  cases x with
  | c sh l => simp only [SV.mapC, mapAll_same h]
  | ep s o kd fl es i f row => simp [SV.mapC, he]
  | _ => rfl
theorem mapSt_id {g : Nat → Nat → CV → CV} {e : EpMap} (h : ∀ k j c, g k j c = c) (he : ∀ a b, e a b = some (a, b)) : ∀ (k : Nat) (σ : St), mapSt g e k σ = σ
  | _, [] => rfl
  | k, x :: l => by rw [mapSt, mapC_id (h k) he, mapSt_id h he]
theorem back_none (l : List (Nat × Nat)) (σ : St) : back [] l false σ = σ := by
  refine mapSt_id (fun k j c => ?_) (fun a b => ?_) 0 σ
  · cases c <;> simp [backC]
  · simp [backEp]

section
variable {E : Env} {call : CallF} {N : Nat} {σ : St} {L : St → Prop} {d : Tmp} {ty : TypeId} {ps : String} {af : Array Edge} {gd : Option (Nat × Bool)}

theorem callSt_plain {f : Operand} {xs : List Operand} {g : FuncId} (hf : opd E.T N ty σ f = .fn g []) (hg : (xs.map (opd E.T N ty σ)).flatMap ghostsOf = []) :
    callSt E call N ty σ f xs = (lendArgs 0 (xs.map (opd E.T N ty σ))).bind fun q => (call g q.1 []).bind fun r => retIn σ q r := by
  have hg' : (xs.flatMap fun x => ghostsOf (opd E.T N ty σ x)) = [] := by
    rw [← hg, List.flatMap_map]
  unfold callSt
  simp only [hf, hg', List.append_nil, nodupB, settles, Option.bind_some, if_true, and_self]
  congr 1; funext q
  unfold callIn
  simp only [boxesAt, Option.bind_some, List.length_nil, Nat.sub_self, List.range'_zero, List.map_nil, List.append_nil]
  rw [if_pos ⟨rfl, by simp⟩]
  congr 1; funext r
  unfold retIn
  by_cases h : r.boxes.length = 0 ∧ isRes r.res = true ∧ r.res.cells.all noBr = true
  · have hb : r.boxes = [] := List.length_eq_zero_iff.1 h.1
    have h' := h.2.2
    simp only [List.all_eq_true] at h'
    simp only [hb, h.2.1, h.2.2, h', List.length_nil, List.all_nil, List.not_mem_nil, false_implies, implies_true, and_self, if_true, List.any_nil, Bool.or_false, List.map_nil, putBoxes]
    by_cases ha : r.res.cells.any CV.flag = true
    · simp [ha]
    · simp [ha, back_none]
  · rw [if_neg h, if_neg]
    rintro ⟨h1, h2, h3, h4⟩
    exact h ⟨h1, h2, by simpa using h3⟩

@[simp↓] theorem wp_call {f : Operand} {xs : Array Operand} {tys : Array TypeId} : Wp (stepOp E call N ⟨some d, .call ⟨.value f, xs, tys⟩, ty, ps, af, gd⟩ σ) L =
    Br (d < N) (Wp (some (clear d σ)) fun σ => Wp (callAny E call N ty σ f xs.toList) fun r => Wp (some (r.1.set d r.2)) L) False := by
  by_cases hd : d < N
  · simp only [stepOp, hd, if_true, br_true, wp_some]
    have he : effOp E call N ⟨some d, .call ⟨.value f, xs, tys⟩, ty, ps, af, gd⟩ d (clear d σ) = callSt E call N ty (clear d σ) f xs.toList := rfl
    have hp : pureOp E call N ⟨some d, .call ⟨.value f, xs, tys⟩, ty, ps, af, gd⟩ (clear d σ) = match opd E.T N ty (clear d σ) f with
      | .fn g [] => if ((xs.toList.map (opd E.T N ty (clear d σ))).flatMap ghostsOf).isEmpty then (lendArgs 0 (xs.toList.map (opd E.T N ty (clear d σ)))).bind fun q => (call g q.1 []).bind fun r =>
          if r.boxes.length = 0 ∧ r.res.cells.any CV.flag = false ∧ isRes r.res = true ∧ r.res.cells.all noBr = true then some (r.res.reflag q.2.2) else none
        else none
      | _ => none := rfl
    generalize clear d σ = τ at he hp ⊢
    rw [he, hp]
    have key : ∀ g, opd E.T N ty τ f = .fn g [] → ((xs.toList.map (opd E.T N ty τ)).flatMap ghostsOf).isEmpty = true → _ := fun g h1 h2 => callSt_plain (call := call) h1 (List.isEmpty_iff.1 h2)
    unfold callAny
    cases hf : opd E.T N ty τ f with
    | fn g caps =>
      cases caps with
      | nil =>
        by_cases h2 : ((xs.toList.map (opd E.T N ty τ)).flatMap ghostsOf).isEmpty = true
        · simp only [h2, if_true, key g hf h2]
          cases lendArgs 0 (xs.toList.map (opd E.T N ty τ)) with
          | none => simp
          | some q =>
            simp only [Option.bind_some, wp_bind]
            cases hr : call g q.1 [] with
            | none => simp
            | some r =>
              simp only [Option.bind_some, wp_some, retIn]
              by_cases hc : r.boxes.length = 0 ∧ r.res.cells.any CV.flag = false ∧ isRes r.res = true ∧ r.res.cells.all noBr = true
              · rw [if_pos hc, if_pos ⟨hc.1, hc.2.2⟩]
                simp only [wp_some, hc.2.1, Bool.false_eq_true, if_false]
              · rw [if_neg hc]
                simp
        · simp [h2]
      | cons _ _ => simp
    | _ => simp
  · simp [stepOp, hd, Br]

@[simp↓] theorem wp_len {x : Operand} {t : TypeId} : Wp (stepOp E call N ⟨some d, .call ⟨.builtin .len, #[x], #[t]⟩, ty, ps, af, gd⟩ σ) L =
    Br (d < N) (Wp (some (clear d σ)) fun σ => Wp (lenSV E.T t (opd E.T N ty σ x)) fun v => Wp (some (σ.set d v)) L) False := by
  by_cases hd : d < N
  · simp only [stepOp, hd, if_true, br_true, wp_some]
    have hp : pureOp E call N ⟨some d, .call ⟨.builtin .len, #[x], #[t]⟩, ty, ps, af, gd⟩ (clear d σ) = lenSV E.T t (opd E.T N ty (clear d σ) x) := rfl
    have he : effOp E call N ⟨some d, .call ⟨.builtin .len, #[x], #[t]⟩, ty, ps, af, gd⟩ d (clear d σ) = none := rfl
    rw [hp, he]
    cases lenSV E.T t (opd E.T N ty (clear d σ) x) <;> simp
  · simp [stepOp, hd, Br]

@[simp↓] theorem wp_append {x y : Operand} {t u : TypeId} : Wp (stepOp E call N ⟨some d, .call ⟨.builtin .append, #[x, y], #[t, u]⟩, ty, ps, af, gd⟩ σ) L =
    Br (d < N) (Wp (some (clear d σ)) fun σ => Br (((E.T.sl u).isSome || E.T.str u) = true) (Wp (appendSt E.T σ d t (opd E.T N ty σ x) (opd E.T N ty σ y)) fun r => Wp (some (r.1.set d r.2)) L) False) False := by
  by_cases hd : d < N
  · simp only [stepOp, hd, if_true, br_true, wp_some]
    have hp : pureOp E call N ⟨some d, .call ⟨.builtin .append, #[x, y], #[t, u]⟩, ty, ps, af, gd⟩ (clear d σ) = none := rfl
    have he : effOp E call N ⟨some d, .call ⟨.builtin .append, #[x, y], #[t, u]⟩, ty, ps, af, gd⟩ d (clear d σ) = if ((E.T.sl u).isSome || E.T.str u) = true then appendSt E.T (clear d σ) d t (opd E.T N ty (clear d σ) x) (opd E.T N ty (clear d σ) y) else none := rfl
    rw [hp, he]
    simp only [wp_map, wp_ite, wp_none, wp_some]
  · simp [stepOp, hd, Br]

@[simp↓] theorem wp_min {x y : Operand} {ts : Array TypeId} : Wp (stepOp E call N ⟨some d, .call ⟨.builtin .min, #[x, y], ts⟩, ty, ps, af, gd⟩ σ) L =
    Br (d < N) (Wp (some (clear d σ)) fun σ => Wp (min2 (opd E.T N ty σ x) (opd E.T N ty σ y)) fun v => Wp (some (σ.set d v)) L) False := by
  by_cases hd : d < N
  · simp only [stepOp, hd, if_true, br_true, wp_some]
    have hp : pureOp E call N ⟨some d, .call ⟨.builtin .min, #[x, y], ts⟩, ty, ps, af, gd⟩ (clear d σ) = foldSV min2 (opd E.T N ty (clear d σ) x) [opd E.T N ty (clear d σ) y] := rfl
    have he : effOp E call N ⟨some d, .call ⟨.builtin .min, #[x, y], ts⟩, ty, ps, af, gd⟩ d (clear d σ) = none := rfl
    rw [hp, he]
    simp only [foldSV]
    cases min2 (opd E.T N ty (clear d σ) x) (opd E.T N ty (clear d σ) y) <;> simp
  · simp [stepOp, hd, Br]
@[simp↓] theorem wp_max {x y : Operand} {ts : Array TypeId} : Wp (stepOp E call N ⟨some d, .call ⟨.builtin .max, #[x, y], ts⟩, ty, ps, af, gd⟩ σ) L =
    Br (d < N) (Wp (some (clear d σ)) fun σ => Wp (max2 (opd E.T N ty σ x) (opd E.T N ty σ y)) fun v => Wp (some (σ.set d v)) L) False := by
  by_cases hd : d < N
  · simp only [stepOp, hd, if_true, br_true, wp_some]
    have hp : pureOp E call N ⟨some d, .call ⟨.builtin .max, #[x, y], ts⟩, ty, ps, af, gd⟩ (clear d σ) = foldSV max2 (opd E.T N ty (clear d σ) x) [opd E.T N ty (clear d σ) y] := rfl
    have he : effOp E call N ⟨some d, .call ⟨.builtin .max, #[x, y], ts⟩, ty, ps, af, gd⟩ d (clear d σ) = none := rfl
    rw [hp, he]
    simp only [foldSV]
    cases max2 (opd E.T N ty (clear d σ) x) (opd E.T N ty (clear d σ) y) <;> simp
  · simp [stepOp, hd, Br]
end

/-- The state that a call begins with. -/
def start (N : Nat) (args : List SV) (bs : List (List CV)) : St := args.map (shiftSV N) ++ List.replicate (N - args.length) .undef ++ bs.map (.c .box)
/-- What a call answers behind its code. -/
def finish (T : Tys) (N m : Nat) (rs : List ResultVar) (σ : St) : Option Ret :=
  (leaveRes T N σ.length 0 rs σ).bind fun q =>
    (settles ((List.range m).map (N + ·)) q.1).bind fun σ =>
    (boxesAt σ ((List.range m).map (N + ·))).bind fun m => if m.all (·.all noBr) then some ⟨.c (shapeOf q.2.1) q.2.2, m⟩ else none
def ended : Ex → Prop
  | .exit _ => False
  | _ => True
@[simp] theorem ended_normal : ended .normal = True := rfl
@[simp] theorem ended_ret : ended .ret = True := rfl
@[simp] theorem ended_exit {i} : ended (.exit i) = False := rfl

theorem wp_pcall {E : Env} {n : Nat} {f : FuncId} {args : List SV} {bs : List (List CV)} {K : Ret → Prop} {fn : Func} {code : Code} (ho : E.orc f = none) (hf : E.fns f = some fn) (hb : fn.body = some code) (hl : args.length ≤ fn.ntmps)
    (h : Wp (runCode { E with D := E.dead f } (pcall E n) fn.ntmps n code (start fn.ntmps args bs)) fun r => ended r.1 ∧ Wp (finish E.T fn.ntmps bs.length fn.results.toList r.2) K) : Wp (pcall E (n + 1) f args bs) K := by
  obtain ⟨⟨e, σ⟩, h1, h2, h3⟩ := h
  unfold start at h1
  simp only [pcall, ho, hf, hb, Option.bind_some, hl, if_true, h1]
  cases e with
  | exit i => exact h2.elim
  | normal => exact h3
  | ret => exact h3

/-- A loop: what holds at each round's head, and how many rounds are left at most. -/
theorem iter_wp {f : St → Option (Ex × St)} {K : Ex × St → Prop} (I : Nat → St → Prop) (h : ∀ k σ, I k σ → Wp (f σ) (cont (fun σ' => ∃ k', k' < k ∧ I k' σ') K)) : ∀ (n k : Nat) (σ : St), k < n → I k σ → Wp (iter f n σ) K
  | 0, k, σ, hk, _ => absurd hk (Nat.not_lt_zero _)
  | n + 1, k, σ, hk, hi => by
    obtain ⟨⟨e, σ'⟩, h1, h2⟩ := h k σ hi
    simp only [iter, h1, Option.bind_some]
    cases e with
    | normal =>
      obtain ⟨k', hk', hi'⟩ := h2
      exact iter_wp I h n k' σ' (by omega) hi'
    | exit i => exact wp_some ▸ h2
    | ret => exact wp_some ▸ h2
theorem wp_loop {E : Env} {call : CallF} {N n : Nat} {b : Code} {σ : St} {K : Ex × St → Prop} (I : Nat → St → Prop) (k : Nat) (hk : k < n) (hi : I k σ)
    (h : ∀ k σ, I k σ → Wp (some (tidy N (E.D (firstId b)) σ)) fun σ => Wp (runCode E call N n b σ) (cont (fun σ' => ∃ k', k' < k ∧ I k' σ') K)) : Wp (runCode E call N n (.loop b) σ) K := by
  simp only [runCode]
  exact iter_wp I (fun k σ hi => by have := h k σ hi; rwa [wp_some] at this) n k σ hk hi

end Go.Proofs.Ytlbigobmhglppaa.R
