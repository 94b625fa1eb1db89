/- Walking the evaluator: what has to hold before, so that a condition holds behind; laws for simp, one for each form of code and of operation. -/
import Derived.Test.YtlbigobmhglppaaR2
set_option linter.unusedVariables false
set_option linter.unusedSimpArgs false
namespace Go.Proofs.Ytlbigobmhglppaa.R
open Go

/-- It answers, and the answer is right. -/
def Wp {α : Type} (x : Option α) (K : α → Prop) : Prop := ∃ r, x = some r ∧ K r
/-- A fork; nothing below it is walked before it is parted. -/
def Br (c : Prop) (A B : Prop) : Prop := (c → A) ∧ (¬c → B)

section
variable {α β : Type}
@[congr] theorem wp_congr {x y : Option α} {K : α → Prop} (h : x = y) : Wp x K = Wp y K := by rw [h]
@[congr] theorem br_congr {c d : Prop} {A B : Prop} (h : c = d) : Br c A B = Br d A B := by rw [h]
@[simp] theorem br_true {A B : Prop} : Br True A B = A := by simp [Br]
@[simp] theorem br_false {A B : Prop} : Br False A B = B := by simp [Br]
theorem br_mk {c A B : Prop} (h1 : c → A) (h2 : ¬c → B) : Br c A B := ⟨h1, h2⟩
theorem br_pos {c A B : Prop} (h : c) (h1 : A) : Br c A B := ⟨fun _ => h1, fun h' => (h' h).elim⟩
theorem br_neg {c A B : Prop} (h : ¬c) (h1 : B) : Br c A B := ⟨fun h' => (h h').elim, fun _ => h1⟩
@[simp] theorem wp_some {a : α} {K : α → Prop} : Wp (some a) K = K a := by simp [Wp]
@[simp] theorem wp_none {K : α → Prop} : Wp (none : Option α) K = False := by simp [Wp]
@[simp↓] theorem wp_bind {x : Option α} {g : α → Option β} {K : β → Prop} : Wp (x.bind g) K = Wp x fun r => Wp (g r) K := by
  cases x <;> simp
@[simp↓] theorem wp_map {x : Option α} {g : α → β} {K : β → Prop} : Wp (x.map g) K = Wp x fun r => K (g r) := by
  cases x <;> simp
@[simp↓] theorem wp_ite {c : Prop} [Decidable c] {x y : Option α} {K : α → Prop} : Wp (if c then x else y) K = Br c (Wp x K) (Wp y K) := by
  unfold Br; by_cases h : c <;> simp [h]
theorem Wp.mono {x : Option α} {K L : α → Prop} (h : Wp x K) (hk : ∀ r, K r → L r) : Wp x L := by
  obtain ⟨r, h1, h2⟩ := h; exact ⟨r, h1, hk r h2⟩
theorem wp_of {x : Option α} {r : α} {K : α → Prop} (h : x = some r) (hk : K r) : Wp x K := ⟨r, h, hk⟩
theorem wp_eq {x : Option α} {r : α} (h : Wp x (· = r)) : x = some r := by
  obtain ⟨_, h1, h2⟩ := h; rw [h1, h2]
end

/-- What follows where a part of the code ends. -/
def cont (k : St → Prop) (K : Ex × St → Prop) : Ex × St → Prop
  | (.normal, σ) => k σ
  | (.exit i, σ) => K (.exit i, σ)
  | (.ret, σ) => K (.ret, σ)
@[simp] theorem cont_normal {k K σ} : cont k K (.normal, σ) = k σ := rfl
@[simp] theorem cont_exit {k K i σ} : cont k K (.exit i, σ) = K (.exit i, σ) := rfl
@[simp] theorem cont_ret {k K σ} : cont k K (.ret, σ) = K (.ret, σ) := rfl
def blk (id : Nat) (K : Ex × St → Prop) : Ex × St → Prop
  | (.normal, σ) => K (.normal, σ)
  | (.exit i, σ) => if i = id then K (.normal, σ) else K (.exit i, σ)
  | (.ret, σ) => K (.ret, σ)
@[simp] theorem blk_normal {i K σ} : blk i K (.normal, σ) = K (.normal, σ) := rfl
@[simp] theorem blk_exit_same {i K σ} : blk i K (.exit i, σ) = K (.normal, σ) := by simp [blk]
theorem blk_exit {i j K σ} : blk i K (.exit j, σ) = if j = i then K (.normal, σ) else K (.exit j, σ) := rfl
@[simp] theorem blk_exit_other {i j K σ} (h : (j == i) = false) : blk i K (.exit j, σ) = K (.exit j, σ) := by
  have : ¬ j = i := by simpa using h
  simp [blk, this]
@[simp] theorem blk_ret {i K σ} : blk i K (.ret, σ) = K (.ret, σ) := rfl

section
variable {E : Env} {call : CallF} {N n : Nat} {σ : St} {K : Ex × St → Prop}

@[congr] theorem runCode_congr {c : Code} {σ τ : St} (h : σ = τ) : runCode E call N n c σ = runCode E call N n c τ := by rw [h]

@[simp↓] theorem wp_skip : Wp (runCode E call N n .skip σ) K = Wp (some σ) fun σ => K (.normal, σ) := by simp [runCode]
@[simp↓] theorem wp_label {l} : Wp (runCode E call N n (.label l) σ) K = Wp (some σ) fun σ => K (.normal, σ) := by simp [runCode]
@[simp↓] theorem wp_exit {i} : Wp (runCode E call N n (.exit i) σ) K = Wp (some σ) fun σ => K (.exit i, σ) := by simp [runCode]
@[simp↓] theorem wp_ret : Wp (runCode E call N n .ret σ) K = Wp (some σ) fun σ => K (.ret, σ) := by simp [runCode]
@[simp↓] theorem wp_seq {a b : Code} : Wp (runCode E call N n (.seq a b) σ) K = Wp (runCode E call N n a σ) (cont (fun σ => Wp (runCode E call N n b σ) K) K) := by
  simp only [runCode, wp_bind]
  congr 1; funext ⟨e, σ⟩
  cases e <;> simp [cont]
@[simp↓] theorem wp_cond {c : Operand} {t e : Code} : Wp (runCode E call N n (.cond c t e) σ) K = Wp (some σ) fun σ => Wp (opd E.T N 0 σ c).bool? fun x => Br (x = true) (Wp (runCode E call N n t σ) K) (Wp (runCode E call N n e σ) K) := by
  simp only [runCode, wp_bind, wp_ite, wp_some]
@[simp↓] theorem wp_block {id : Nat} {b : Code} : Wp (runCode E call N n (.block id b) σ) K = Wp (runCode E call N n b σ) (blk id K) := by
  simp only [runCode, wp_map]
  congr 1; funext ⟨e, σ⟩
  cases e with
  | exit i => simp only [blk]; split <;> rfl
  | _ => simp [blk]

/-- The operations one behind the other. -/
def runL (E : Env) (call : CallF) (N : Nat) (ops : Array Oper) : List Oper → St → Option St
  | [], σ => some σ
  | o :: r, σ => (wantedSt N ops o σ).bind fun w => (if w then stepOp E call N o σ else if dstOk N o.dst then some (putSt o.dst .undef (clearSt o.dst σ)) else none).bind fun σ => runL E call N ops r σ

theorem runOps_runL {ops : Array Oper} : ∀ (r : List Oper) (k : Nat) (σ : St), ops.toList.drop k = r → runOps E call N ops (List.range' k r.length) σ = runL E call N ops r σ
  | [], k, σ, h => by simp [runOps, runL]
  | o :: r, k, σ, h => by
    have hk : ops.toList[k]? = some o := by
      have := congrArg (fun l => l[0]?) h
      simpa [List.getElem?_drop] using this
    have hd : ops.toList.drop (k + 1) = r := by
      have := congrArg List.tail h
      simpa [List.tail_drop] using this
    simp only [List.length_cons, List.range'_succ, runOps, runL]
    rw [show ops[k]? = some o by simpa using hk]
    simp only
    congr 1; funext w
    congr 1; funext σ'
    exact runOps_runL r (k + 1) σ' hd

@[simp↓] theorem wp_region {id : Nat} {ops : Array Oper} : Wp (runCode E call N n (.region id ops false) σ) K = Wp (runL E call N ops ops.toList σ) fun σ => K (.normal, σ) := by
  simp only [runCode, Bool.false_eq_true, if_false, wp_map]
  rw [List.range_eq_range', ← runOps_runL ops.toList 0 σ rfl]
  simp

variable {L : St → Prop}
@[simp↓] theorem wp_nil {ops : Array Oper} : Wp (runL E call N ops [] σ) L = Wp (some σ) L := rfl
@[simp↓] theorem wp_cons {ops : Array Oper} {d : Option Tmp} {op : Op} {ty : TypeId} {ps : String} {af : Array Edge} {r : List Oper} :
    Wp (runL E call N ops (⟨d, op, ty, ps, af, none⟩ :: r) σ) L = Wp (stepOp E call N ⟨d, op, ty, ps, af, none⟩ σ) fun σ => Wp (runL E call N ops r σ) L := by
  simp [runL, wantedSt]
@[simp↓] theorem wp_cons_guard {ops : Array Oper} {d : Tmp} {op : Op} {ty : TypeId} {ps : String} {af : Array Edge} {j : Nat} {want : Bool} {r : List Oper} :
    Wp (runL E call N ops (⟨some d, op, ty, ps, af, some (j, want)⟩ :: r) σ) L = Wp (some σ) fun σ => Wp ((ops[j]?).bind (·.dst)) fun t => Br (t < N ∧ d < N) (Wp (σ.getD t .undef).bool? fun b =>
      Br (b = want) (Wp (stepOp E call N ⟨some d, op, ty, ps, af, some (j, want)⟩ σ) fun σ => Wp (runL E call N ops r σ) L) (Wp (some ((clear d σ).set d .undef)) fun σ => Wp (runL E call N ops r σ) L)) False := by
  have e : runL E call N ops (⟨some d, op, ty, ps, af, some (j, want)⟩ :: r) σ = (((ops[j]?).bind (·.dst)).bind fun t => if t < N then (σ.getD t .undef).bool?.map fun b => b == want else none).bind fun w =>
      (if w = true then stepOp E call N ⟨some d, op, ty, ps, af, some (j, want)⟩ σ else if d < N then some ((clear d σ).set d .undef) else none).bind fun σ => runL E call N ops r σ := by
    simp only [runL, wantedSt, dstOk, putSt, clearSt, decide_eq_true_eq]
  rw [e, wp_some]
  have hs : ¬ d < N → stepOp E call N ⟨some d, op, ty, ps, af, some (j, want)⟩ σ = none := fun h => by simp [stepOp, h]
  generalize stepOp E call N ⟨some d, op, ty, ps, af, some (j, want)⟩ σ = so at hs e ⊢
  generalize (ops[j]?).bind (·.dst) = ot
  cases ot with
  | none => simp
  | some t =>
    by_cases ht : t < N
    · by_cases hd : d < N
      · simp only [Option.bind_some, ht, hd, if_true, and_self, br_true, wp_map, wp_bind, wp_some]
        congr 1; funext b
        by_cases hb : b = want
        · simp [hb]
        · simp [hb]
      · cases hb : (σ.getD t .undef).bool? with
        | none => simp at hb; simp [ht, hd, hb, br_false]
        | some b => simp at hb; by_cases hw : b = want <;> simp [ht, hd, hb, hs hd, hw, Br]
    · simp [ht, Br]
end
end Go.Proofs.Ytlbigobmhglppaa.R
