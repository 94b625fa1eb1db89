/- Walking the evaluator: what has to hold before, so that a condition holds behind; laws for simp, one for each form of code and of operation. -/
import Derived.Test.YtblelojdboefjaaDoorM1
import Derived.Test.YtblelojdboefjaaDoorM2
import Derived.IntWalk
import Derived.Laws.Strings
set_option linter.unusedVariables false
set_option linter.unusedSimpArgs false
namespace Go.Proofs.YtblelojdboefjaaDoor.R
open Go

/-- It answers, and the answer is right. -/
def Wp {α : Type} (x : Option α) (K : α → Prop) : Prop := ∃ r, x = some r ∧ K r
/-- A fork; nothing below it is walked before it is parted. -/
def Br (c : Prop) (A B : Prop) : Prop := (c → A) ∧ (¬c → B)

section
variable {α β : Type}
@[congr] theorem wp_congr {x y : Option α} {K : α → Prop} (h : x = y) : Wp x K = Wp y K := by rw [h]
@[congr] theorem br_congr {c d : Prop} {A B : Prop} (h : c = d) : Br c A B = Br d A B := by rw [h]
@[simp] theorem br_true {A B : Prop} : Br True A B = A := by simp [Br]
@[simp] theorem br_false {A B : Prop} : Br False A B = B := by simp [Br]
theorem br_mk {c A B : Prop} (h1 : c → A) (h2 : ¬c → B) : Br c A B := ⟨h1, h2⟩
theorem br_pos {c A B : Prop} (h : c) (h1 : A) : Br c A B := ⟨fun _ => h1, fun h' => (h' h).elim⟩
theorem br_neg {c A B : Prop} (h : ¬c) (h1 : B) : Br c A B := ⟨fun h' => (h h').elim, fun _ => h1⟩
@[simp] theorem wp_some {a : α} {K : α → Prop} : Wp (some a) K = K a := by simp [Wp]
@[simp] theorem wp_none {K : α → Prop} : Wp (none : Option α) K = False := by simp [Wp]
@[simp↓] theorem wp_bind {x : Option α} {g : α → Option β} {K : β → Prop} : Wp (x.bind g) K = Wp x fun r => Wp (g r) K := by
  cases x <;> simp
@[simp↓] theorem wp_map {x : Option α} {g : α → β} {K : β → Prop} : Wp (x.map g) K = Wp x fun r => K (g r) := by
  cases x <;> simp
@[simp↓] theorem wp_ite {c : Prop} [Decidable c] {x y : Option α} {K : α → Prop} : Wp (if c then x else y) K = Br c (Wp x K) (Wp y K) := by
  unfold Br; by_cases h : c <;> simp [h]
theorem Wp.mono {x : Option α} {K L : α → Prop} (h : Wp x K) (hk : ∀ r, K r → L r) : Wp x L := by
  obtain ⟨r, h1, h2⟩ := h; exact ⟨r, h1, hk r h2⟩
theorem wp_of {x : Option α} {r : α} {K : α → Prop} (h : x = some r) (hk : K r) : Wp x K := ⟨r, h, hk⟩
theorem wp_eq {x : Option α} {r : α} (h : Wp x (· = r)) : x = some r := by
  obtain ⟨_, h1, h2⟩ := h; rw [h1, h2]
end

/-- What follows where a part of the code ends. -/
def cont (k : St → Prop) (K : Ex × St → Prop) : Ex × St → Prop
  | (.normal, σ) => k σ
  | (.exit i, σ) => K (.exit i, σ)
  | (.ret, σ) => K (.ret, σ)
@[simp] theorem cont_normal {k K σ} : cont k K (.normal, σ) = k σ := rfl
@[simp] theorem cont_exit {k K i σ} : cont k K (.exit i, σ) = K (.exit i, σ) := rfl
@[simp] theorem cont_ret {k K σ} : cont k K (.ret, σ) = K (.ret, σ) := rfl
def blk (id : Nat) (K : Ex × St → Prop) : Ex × St → Prop
  | (.normal, σ) => K (.normal, σ)
  | (.exit i, σ) => if i = id then K (.normal, σ) else K (.exit i, σ)
  | (.ret, σ) => K (.ret, σ)
@[simp] theorem blk_normal {i K σ} : blk i K (.normal, σ) = K (.normal, σ) := rfl
@[simp] theorem blk_exit_same {i K σ} : blk i K (.exit i, σ) = K (.normal, σ) := by simp [blk]
theorem blk_exit {i j K σ} : blk i K (.exit j, σ) = if j = i then K (.normal, σ) else K (.exit j, σ) := rfl
@[simp] theorem blk_exit_other {i j K σ} (h : (j == i) = false) : blk i K (.exit j, σ) = K (.exit j, σ) := by
  have : ¬ j = i := by simpa using h
  simp [blk, this]
@[simp] theorem blk_ret {i K σ} : blk i K (.ret, σ) = K (.ret, σ) := rfl

section
variable {E : Env} {call : CallF} {N n : Nat} {σ : St} {K : Ex × St → Prop}

@[congr] theorem runCode_congr {c : Code} {σ τ : St} (h : σ = τ) : runCode E call N n c σ = runCode E call N n c τ := by rw [h]

@[simp↓] theorem wp_skip : Wp (runCode E call N n .skip σ) K = Wp (some σ) fun σ => K (.normal, σ) := by simp [runCode]
@[simp↓] theorem wp_label {l} : Wp (runCode E call N n (.label l) σ) K = Wp (some σ) fun σ => K (.normal, σ) := by simp [runCode]
@[simp↓] theorem wp_exit {i} : Wp (runCode E call N n (.exit i) σ) K = Wp (some σ) fun σ => K (.exit i, σ) := by simp [runCode]
@[simp↓] theorem wp_ret : Wp (runCode E call N n .ret σ) K = Wp (some σ) fun σ => K (.ret, σ) := by simp [runCode]
@[simp↓] theorem wp_seq {a b : Code} : Wp (runCode E call N n (.seq a b) σ) K = Wp (runCode E call N n a σ) (cont (fun σ => Wp (runCode E call N n b σ) K) K) := by
  simp only [runCode, wp_bind]
  congr 1; funext ⟨e, σ⟩
  cases e <;> simp [cont]
@[simp↓] theorem wp_cond {c : Operand} {t e : Code} : Wp (runCode E call N n (.cond c t e) σ) K = Wp (some σ) fun σ => Wp (opd E.T N 0 σ c).bool? fun x => Br (x = true) (Wp (runCode E call N n t σ) K) (Wp (runCode E call N n e σ) K) := by
  simp only [runCode, wp_bind, wp_ite, wp_some]
@[simp↓] theorem wp_block {id : Nat} {b : Code} : Wp (runCode E call N n (.block id b) σ) K = Wp (runCode E call N n b σ) (blk id K) := by
  simp only [runCode, wp_map]
  congr 1; funext ⟨e, σ⟩
  cases e with
  | exit i => simp only [blk]; split <;> rfl
  | _ => simp [blk]

/-- The operations one behind the other. -/
def runL (E : Env) (call : CallF) (N : Nat) (ops : Array Oper) : List Oper → St → Option St
  | [], σ => some σ
  | o :: r, σ => (wantedSt N ops o σ).bind fun w => (if w then stepOp E call N o σ else if dstOk N o.dst then some (putSt o.dst skipSV (clearSt o.dst σ)) else none).bind fun σ => runL E call N ops r σ

theorem runOps_runL {ops : Array Oper} : ∀ (r : List Oper) (k : Nat) (σ : St), ops.toList.drop k = r → runOps E call N ops (List.range' k r.length) σ = runL E call N ops r σ
  | [], k, σ, h => by simp [runOps, runL]
  | o :: r, k, σ, h => by
    have hk : ops.toList[k]? = some o := by
      have := congrArg (fun l => l[0]?) h
      simpa [List.getElem?_drop] using this
    have hd : ops.toList.drop (k + 1) = r := by
      have := congrArg List.tail h
      simpa [List.tail_drop] using this
    simp only [List.length_cons, List.range'_succ, runOps, runL]
    rw [show ops[k]? = some o by simpa using hk]
    simp only
    congr 1; funext w
    congr 1; funext σ'
    exact runOps_runL r (k + 1) σ' hd

@[simp↓] theorem wp_region {id : Nat} {ops : Array Oper} : Wp (runCode E call N n (.region id ops false) σ) K = Wp (runL E call N ops ops.toList σ) fun σ => K (.normal, σ) := by
  simp only [runCode, Bool.false_eq_true, if_false, wp_map]
  rw [List.range_eq_range', ← runOps_runL ops.toList 0 σ rfl]
  simp

variable {L : St → Prop}
@[simp↓] theorem wp_nil {ops : Array Oper} : Wp (runL E call N ops [] σ) L = Wp (some σ) L := rfl
@[simp↓] theorem wp_cons {ops : Array Oper} {d : Option Tmp} {op : Op} {ty : TypeId} {ps : String} {af : Array Edge} {r : List Oper} :
    Wp (runL E call N ops (⟨d, op, ty, ps, af, none⟩ :: r) σ) L = Wp (stepOp E call N ⟨d, op, ty, ps, af, none⟩ σ) fun σ => Wp (runL E call N ops r σ) L := by
  simp [runL, wantedSt]
@[simp↓] theorem wp_cons_guard {ops : Array Oper} {d : Tmp} {op : Op} {ty : TypeId} {ps : String} {af : Array Edge} {j : Nat} {want : Bool} {r : List Oper} :
    Wp (runL E call N ops (⟨some d, op, ty, ps, af, some (j, want)⟩ :: r) σ) L = Wp (some σ) fun σ => Wp ((ops[j]?).bind (·.dst)) fun t => Br (t < N ∧ d < N) (Wp (gval (σ.getD t .undef)) fun b =>
      Br (b = some want) (Wp (stepOp E call N ⟨some d, op, ty, ps, af, some (j, want)⟩ σ) fun σ => Wp (runL E call N ops r σ) L) (Wp (some ((clear d σ).set d skipSV)) fun σ => Wp (runL E call N ops r σ) L)) False := by
  have e : runL E call N ops (⟨some d, op, ty, ps, af, some (j, want)⟩ :: r) σ = (((ops[j]?).bind (·.dst)).bind fun t => if t < N then (gval (σ.getD t .undef)).map fun b => b == some want else none).bind fun w =>
      (if w = true then stepOp E call N ⟨some d, op, ty, ps, af, some (j, want)⟩ σ else if d < N then some ((clear d σ).set d skipSV) else none).bind fun σ => runL E call N ops r σ := by
    simp only [runL, wantedSt, dstOk, putSt, clearSt, decide_eq_true_eq]
  rw [e, wp_some]
  have hs : ¬ d < N → stepOp E call N ⟨some d, op, ty, ps, af, some (j, want)⟩ σ = none := fun h => by simp [stepOp, h]
  generalize stepOp E call N ⟨some d, op, ty, ps, af, some (j, want)⟩ σ = so at hs e ⊢
  generalize (ops[j]?).bind (·.dst) = ot
  cases ot with
  | none => simp
  | some t =>
    by_cases ht : t < N
    · by_cases hd : d < N
      · simp only [Option.bind_some, ht, hd, if_true, and_self, br_true, wp_map, wp_bind, wp_some]
        congr 1; funext b
        by_cases hb : b = some want
        · simp [hb]
        · simp [hb]
      · have hf : (t < N ∧ d < N) = False := by simp [hd]
        simp only [hf, br_false, wp_bind, wp_some, ht, hd, hs hd, if_true, if_false, wp_map, ite_self, wp_none]
        simp [Wp]
    · simp [ht, Br]
end
end Go.Proofs.YtblelojdboefjaaDoor.R

/- Walking the evaluator: the operations. -/
set_option linter.unusedVariables false
set_option linter.unusedSimpArgs false
namespace Go.Proofs.YtblelojdboefjaaDoor.R
open Go

section
variable {E : Env} {call : CallF} {N : Nat} {σ : St} {L : St → Prop} {d : Tmp} {ty : TypeId} {ps : String} {af : Array Edge} {gd : Option (Nat × Bool)}

/-- Operations that the pure table alone answers. -/
def onlyPure : Op → Bool
  | .assign _ | .alloc _ | .box _ _ | .buildSlice _ _ _ | .call _ | .store _ _ _ => false
  | _ => true

theorem eff_none {op : Op} (h : onlyPure op = true) : effOp E call N ⟨some d, op, ty, ps, af, gd⟩ d σ = none := by
  cases op <;> first | rfl | simp [onlyPure] at h

theorem give_pure {op : Op} (h : onlyPure op = true) : giveSt d op σ = σ := by
  cases op <;> first | rfl | simp [onlyPure] at h
theorem give_tmp {x : Nat} : giveSt d (.assign (.tmp x)) σ = giveOf d x (σ.getD x .undef) σ := rfl

theorem wp_pure {op : Op} (h : onlyPure op = true) : Wp (stepOp E call N ⟨some d, op, ty, ps, af, gd⟩ σ) L =
    Br (d < N) (Wp (some (clear d σ)) fun σ => Wp (pureOp E call N ⟨some d, op, ty, ps, af, gd⟩ σ) fun v => Wp (some (σ.set d v)) L) False := by
  by_cases hd : d < N
  · simp only [stepOp, hd, if_true, br_true, wp_some, give_pure h]
    cases hp : pureOp E call N ⟨some d, op, ty, ps, af, gd⟩ (clear d σ) with
    | some v => simp
    | none => simp [eff_none h]
  · simp [stepOp, hd, Br]

@[simp↓] theorem wp_move {x} : Wp (stepOp E call N ⟨some d, .move x, ty, ps, af, gd⟩ σ) L = Br (d < N) (Wp (some (clear d σ)) fun σ => Wp (some (σ.set d (opd E.T N ty σ x))) L) False := by
  rw [wp_pure rfl]; simp [pureOp]
@[simp↓] theorem wp_pick {c a b} : Wp (stepOp E call N ⟨some d, .pick c a b, ty, ps, af, gd⟩ σ) L = Br (d < N) (Wp (some (clear d σ)) fun σ => Wp (opd E.T N ty σ c).bool? fun t => Wp (some (σ.set d (if t then opd E.T N ty σ a else opd E.T N ty σ b))) L) False := by
  rw [wp_pure rfl]; simp only [pureOp, wp_map]
@[simp↓] theorem wp_bin {op t x y u} : Wp (stepOp E call N ⟨some d, .binOp op t x y u, ty, ps, af, gd⟩ σ) L = Br (d < N) (Wp (some (clear d σ)) fun σ => Wp (binSV E.T op t (opd E.T N ty σ x) (opd E.T N ty σ y)) fun v => Wp (some (σ.set d (pvSV v))) L) False := by
  rw [wp_pure rfl]; simp only [pureOp, wp_map]
@[simp↓] theorem wp_un {op t x} : Wp (stepOp E call N ⟨some d, .unOp op t x, ty, ps, af, gd⟩ σ) L = Br (d < N) (Wp (some (clear d σ)) fun σ => Wp (unSV op (opd E.T N ty σ x)) fun v => Wp (some (σ.set d (pvSV v))) L) False := by
  rw [wp_pure rfl]; simp only [pureOp, wp_map]
@[simp↓] theorem wp_conv {s t x} : Wp (stepOp E call N ⟨some d, .convert s t x, ty, ps, af, gd⟩ σ) L = Br (d < N) (Wp (some (clear d σ)) fun σ => Wp (convSV E.T s t (opd E.T N ty σ x)) fun v => Wp (some (σ.set d v)) L) False := by
  rw [wp_pure rfl]; rfl
@[simp↓] theorem wp_fieldAddr {t x f} : Wp (stepOp E call N ⟨some d, .fieldAddr t x f, ty, ps, af, gd⟩ σ) L = Br (d < N) (Wp (some (clear d σ)) fun σ => Wp (fieldSV E.T t (opd E.T N ty σ x) f) fun v => Wp (some (σ.set d v)) L) False := by
  rw [wp_pure rfl]; rfl
@[simp↓] theorem wp_indexAddr {t x i} : Wp (stepOp E call N ⟨some d, .indexAddr t x i, ty, ps, af, gd⟩ σ) L = Br (d < N) (Wp (some (clear d σ)) fun σ => Wp (indexSV E.T t (opd E.T N ty σ x) (opd E.T N ty σ i)) fun v => Wp (some (σ.set d v)) L) False := by
  rw [wp_pure rfl]; rfl
@[simp↓] theorem wp_index {t x i} : Wp (stepOp E call N ⟨some d, .index t x i, ty, ps, af, gd⟩ σ) L = Br (d < N) (Wp (some (clear d σ)) fun σ => Wp (charSV E.T t (opd E.T N ty σ x) (opd E.T N ty σ i)) fun v => Wp (some (σ.set d v)) L) False := by
  rw [wp_pure rfl]; rfl
@[simp↓] theorem wp_load {t x} : Wp (stepOp E call N ⟨some d, .load t x, ty, ps, af, gd⟩ σ) L = Br (d < N) (Wp (some (clear d σ)) fun σ => Wp (loadSV E.T σ t (opd E.T N ty σ x)) fun v => Wp (some (σ.set d v)) L) False := by
  rw [wp_pure rfl]; rfl
def extSV (v : SV) (i : Nat) : Option SV :=
  match v with
  | .c (.tup s) l => comp i s l
  | _ => none
@[simp↓] theorem wp_extract {x i} : Wp (stepOp E call N ⟨some d, .extract x i, ty, ps, af, gd⟩ σ) L = Br (d < N) (Wp (some (clear d σ)) fun σ => Wp (extSV (opd E.T N ty σ x) i) fun v => Wp (some (σ.set d v)) L) False := by
  rw [wp_pure rfl]; rfl
@[simp↓] theorem wp_slice {t x lo hi} : Wp (stepOp E call N ⟨some d, .slice t x lo hi none, ty, ps, af, gd⟩ σ) L = Br (d < N) (Wp (some (clear d σ)) fun σ => Wp (sliceSV E.T t (opd E.T N ty σ x) (lo.map (opd E.T N ty σ)) (hi.map (opd E.T N ty σ))) fun v => Wp (some (σ.set d v)) L) False := by
  rw [wp_pure rfl]; rfl
@[simp↓] theorem wp_nilCheck {x} : Wp (stepOp E call N ⟨some d, .nilCheck x, ty, ps, af, gd⟩ σ) L = Br (d < N) (Wp (some (clear d σ)) fun σ => Br (guardPt (opd E.T N ty σ x) = true) (Wp (some (σ.set d (opd E.T N ty σ x))) L) False) False := by
  rw [wp_pure rfl]
  congr 1; congr 1; funext σ
  simp only [pureOp, wp_ite, wp_some, wp_none]
@[simp↓] theorem wp_build {t ps'} : Wp (stepOp E call N ⟨some d, .build t ps', ty, ps, af, gd⟩ σ) L = Br (d < N) (Wp (some (clear d σ)) fun σ => Wp (E.T.zr t) fun z => Wp (E.T.ag t) fun a => Br (a = true) (Wp (fillSV E.T t (ps'.toList.map fun p => (p.1, opd E.T N ty σ p.2)) (z.map (PV.cv false))) fun l => Wp (some (σ.set d (.c .agg l))) L) False) False := by
  rw [wp_pure rfl]
  congr 1; congr 1; funext σ
  simp only [pureOp, wp_bind, wp_ite, wp_some, wp_none, wp_map]
@[simp↓] theorem wp_makeFunc {g caps} : Wp (stepOp E call N ⟨some d, .makeFunc (.func g) #[] caps, ty, ps, af, gd⟩ σ) L = Br (d < N) (Wp (some (clear d σ)) fun σ => Wp (caps.toList.mapM fun x => slotOf (opd E.T N ty σ x)) fun l => Wp (some (σ.set d (.fn g l))) L) False := by
  rw [wp_pure rfl]
  congr 1; congr 1; funext σ
  simp [pureOp]
def makeSV (T : Tys) (t : TypeId) (n m : SV) : Option SV := (T.sl t).bind fun e => (T.sz e).bind fun es => (T.byt e).bind fun bs => (T.zr e).bind fun z =>
      match n.int?, m.int? with
      | some (.i64, n), some (.i64, m) => if n = m ∧ 0 ≤ n ∧ n ≤ LIM ∧ n * bs ≤ LIM ∧ z.length = es then some (.c .one [.ow false es (List.replicate n.toNat (if T.mo then z.map PV.zo else z))]) else none
      | _, _ => none
@[simp↓] theorem wp_makeSlice {t n m} : Wp (stepOp E call N ⟨some d, .makeSlice t n m, ty, ps, af, gd⟩ σ) L = Br (d < N) (Wp (some (clear d σ)) fun σ => Wp (makeSV E.T t (opd E.T N ty σ n) (opd E.T N ty σ m)) fun v => Wp (some (σ.set d v)) L) False := by
  rw [wp_pure rfl]; rfl

/-- Looks at the caller's slots stay looks, where slices may move. -/
def kpOf (T : Tys) (N : Nat) : Option Nat := if T.mo then some N else none
/-- A value is laid down in slot d. -/
def asgSV (kp : Option Nat) (d : Nat) (v : SV) (σ : St) : Option (St × SV) :=
  match v with
  | .c .one l => (persistAll kp d 0 l σ).map fun r => (r.1, .c .one r.2)
  | .c .agg l => (persistAll kp d 0 l σ).map fun r => (r.1, .c .agg r.2)
  | .bp s b => some (σ, .bp s b)
  | .fn g caps => some (σ, .fn g caps)
  | _ => none

def asgP (v : SV) : Option SV := match v with
      | .c .one l => if l.all (fun c => match c with | .sh _ _ => true | _ => false) then some (.c .one l) else none
      | .c .agg l => if l.all (fun c => match c with | .sh _ _ => true | _ => false) then some (.c .agg l) else none
      | .bp s b => some (.bp s b)
      | .fn g caps => some (.fn g caps)
      | _ => none
def asgE (kp : Option Nat) (d : Nat) (v : SV) (σ : St) : Option (St × SV) := match v with
      | .c .one l => (persistAll kp d 0 l σ).map fun r => (r.1, .c .one r.2)
      | .c .agg l => (persistAll kp d 0 l σ).map fun r => (r.1, .c .agg r.2)
      | _ => none
theorem persistAll_sh {kp : Option Nat} {d : Nat} : ∀ (l : List CV) (j : Nat) (σ : St), (l.all fun c => match c with | .sh _ _ => true | _ => false) = true → persistAll kp d j l σ = some (σ, l)
  | [], j, σ, h => rfl
  | c :: l, j, σ, h => by
    simp only [List.all_cons, Bool.and_eq_true] at h
    cases c <;> simp at h
    simp [persistAll, persist, keptOk, persistAll_sh l (j + 1) σ (by simpa using h)]

@[simp↓] theorem wp_assign {x} : Wp (stepOp E call N ⟨some d, .assign x, ty, ps, af, gd⟩ σ) L = Br (d < N) (Wp (some (clear d (giveSt d (.assign x) σ))) fun σ => Wp (asgSV (kpOf E.T N) d (opd E.T N ty σ x) σ) fun r => Wp (some (r.1.set d r.2)) L) False := by
  by_cases hd : d < N
  · simp only [stepOp, hd, if_true, br_true, wp_some]
    generalize giveSt d (.assign x) σ = σ
    generalize hv : opd E.T N ty (clear d σ) x = v
    have hp : pureOp E call N ⟨some d, .assign x, ty, ps, af, gd⟩ (clear d σ) = asgP v := by rw [← hv]; rfl
    have he : effOp E call N ⟨some d, .assign x, ty, ps, af, gd⟩ d (clear d σ) = asgE (kpOf E.T N) d v (clear d σ) := by rw [← hv]; rfl
    rw [hp, he]
    cases v with
    | c sh l =>
      cases sh with
      | one =>
        by_cases hs : (l.all fun c => match c with | .sh _ _ => true | _ => false) = true
        · simp only [asgP, hs, if_true, asgSV, persistAll_sh l 0 _ hs, Option.map_some, wp_some]
        · simp only [asgP, asgE, hs, if_false, asgSV, wp_map, Bool.false_eq_true, wp_some, Function.comp_def]
      | agg =>
        by_cases hs : (l.all fun c => match c with | .sh _ _ => true | _ => false) = true
        · simp only [asgP, hs, if_true, asgSV, persistAll_sh l 0 _ hs, Option.map_some, wp_some]
        · simp only [asgP, asgE, hs, if_false, asgSV, wp_map, Bool.false_eq_true, wp_some, Function.comp_def]
      | _ => simp [asgSV, asgP, asgE]
    | _ => simp [asgSV, asgP, asgE]
  · simp [stepOp, hd, Br]
@[simp↓] theorem wp_alloc {t} : Wp (stepOp E call N ⟨some d, .alloc t, ty, ps, af, gd⟩ σ) L = Br (d < N) (Wp (some (clear d σ)) fun σ => Wp (E.T.zr t) fun z => Wp (some (σ.set d (.c .box (z.map (PV.cv false))))) L) False := by
  by_cases hd : d < N
  · simp [stepOp, hd, pureOp, effOp, giveSt, kpOf]
  · simp [stepOp, hd, Br]
@[simp↓] theorem wp_box {t x} : Wp (stepOp E call N ⟨some d, .box t x, ty, ps, af, gd⟩ σ) L = Br (d < N) (Wp (some (clear d σ)) fun σ => Wp (E.T.sz t) fun n => Wp (cells? (opd E.T N ty σ x)) fun cs => Br (cs.length = n) (Wp (persistAll (kpOf E.T N) d 0 cs σ) fun r => Wp (some (r.1.set d (.c .box r.2))) L) False) False := by
  by_cases hd : d < N
  · simp [stepOp, hd, pureOp, effOp, giveSt, kpOf]
  · simp [stepOp, hd, Br]
@[simp↓] theorem wp_clear {x : Operand} {t : TypeId} : Wp (stepOp E call N ⟨none, .call ⟨.builtin .clear, #[x], #[t]⟩, ty, ps, af, gd⟩ σ) L = Wp (zeroSt E.T σ t (opd E.T N ty σ x)) L := rfl
@[simp↓] theorem wp_store {t a x} : Wp (stepOp E call N ⟨none, .store t a x, ty, ps, af, gd⟩ σ) L = Wp (storeSt E.T N ty σ t a x) L := rfl

end
end Go.Proofs.YtblelojdboefjaaDoor.R

/- Walking the evaluator: calls. -/
set_option linter.unusedVariables false
set_option linter.unusedSimpArgs false
namespace Go.Proofs.YtblelojdboefjaaDoor.R
open Go

/-- What a call with no variable handed on leaves. -/
def retIn (σ : St) (q : List SV × List (Nat × Nat) × Bool) (r : Ret) : Option (St × SV) :=
  if r.boxes.length = 0 ∧ isRes r.res = true ∧ r.res.cells.all noBr = true then
    some (if r.res.cells.any CV.flag then back [] q.2.1 true σ else σ, r.res.reflag q.2.2) else none

/-- Is the function told by what it does to the slots? -/
def soSel {α β : Type} (o : Option α) (a : α → β) (b : β) : β :=
  match o with
  | some h => a h
  | none => b

/-- A call of a Go function, either way. -/
def callAny (E : Env) (call : CallF) (N : Nat) (ty : TypeId) (d : Nat) (σ : St) (f : Operand) (xs : List Operand) : Option (St × SV) :=
  match opd E.T N ty σ f with
  | .fn g [] => soSel (E.T.so g) (fun h => h d σ (xs.map (opd E.T N ty σ))) (if ((xs.map (opd E.T N ty σ)).flatMap ghostsOf).isEmpty then (lendArgs 0 (xs.map (opd E.T N ty σ))).bind fun q => (call g q.1 []).bind fun r => retIn σ q r
      else callSt E call N ty d σ f xs)
  | _ => callSt E call N ty d σ f xs

theorem mapAll_same {g : Nat → CV → CV} (h : ∀ j c, g j c = c) : ∀ (j : Nat) (l : List CV), mapAll g j l = l
  | _, [] => rfl
  | j, c :: l => by rw [mapAll, h, mapAll_same h]
theorem mapC_id {g : Nat → CV → CV} {e : EpMap} (h : ∀ j c, g j c = c) (he : ∀ a b q, e a b q = some (a, b, q)) (x : SV) : x.mapC g e = x := by
  cases x with
  | c sh l => simp only [SV.mapC, mapAll_same h]
  | ep s o q kd fl es i f row => simp [SV.mapC, he]
  | _ => rfl
theorem mapSt_id {g : Nat → Nat → CV → CV} {e : EpMap} (h : ∀ k j c, g k j c = c) (he : ∀ a b q, e a b q = some (a, b, q)) : ∀ (k : Nat) (σ : St), mapSt g e k σ = σ
  | _, [] => rfl
  | k, x :: l => by rw [mapSt, mapC_id (h k) he, mapSt_id h he]
theorem back_some_or (l : List (Nat × Nat)) (σ : St) (h : (true && !l.isEmpty) = false) : back [] l true σ = σ := by
  have : l = [] := by simpa using h
  subst this
  exact mapSt_id (fun k j c => by cases c <;> simp [backC]) (fun a b q => by simp [backEp]) 0 σ
theorem back_none (l : List (Nat × Nat)) (σ : St) : back [] l false σ = σ := by
  refine mapSt_id (fun k j c => ?_) (fun a b q => ?_) 0 σ
  · cases c <;> simp [backC]
  · simp [backEp]

section
variable {E : Env} {call : CallF} {N : Nat} {σ : St} {L : St → Prop} {d : Tmp} {ty : TypeId} {ps : String} {af : Array Edge} {gd : Option (Nat × Bool)}

theorem callSt_plain {f : Operand} {xs : List Operand} {g : FuncId} (hf : opd E.T N ty σ f = .fn g []) (hso : E.T.so g = none) (hg : (xs.map (opd E.T N ty σ)).flatMap ghostsOf = []) :
    callSt E call N ty d σ f xs = (lendArgs 0 (xs.map (opd E.T N ty σ))).bind fun q => (call g q.1 []).bind fun r => retIn σ q r := by
  have hg' : (xs.flatMap fun x => ghostsOf (opd E.T N ty σ x)) = [] := by
    rw [← hg, List.flatMap_map]
  unfold callSt
  simp only [hf, hso, hg', List.append_nil, nodupB, settles, Option.bind_some, if_true, and_self]
  congr 1; funext q
  unfold callIn
  simp only [boxesAt, Option.bind_some, List.length_nil, Nat.sub_self, List.range'_zero, List.map_nil, List.append_nil]
  rw [if_pos ⟨rfl, by simp⟩]
  congr 1; funext r
  unfold retIn
  by_cases h : r.boxes.length = 0 ∧ isRes r.res = true ∧ r.res.cells.all noBr = true
  · have hb : r.boxes = [] := List.length_eq_zero_iff.1 h.1
    have h' := h.2.2
    simp only [List.all_eq_true] at h'
    simp only [hb, h.2.1, h.2.2, h', List.length_nil, List.all_nil, List.not_mem_nil, false_implies, implies_true, and_self, if_true, List.any_nil, Bool.or_false, List.map_nil, putBoxes]
    by_cases ha : r.res.cells.any CV.flag = true
    · simp [ha]
    · simp [ha, back_none]
  · rw [if_neg h, if_neg]
    rintro ⟨h1, h2, h3, h4⟩
    exact h ⟨h1, h2, by simpa using h3⟩

@[simp↓] theorem wp_call {f : Operand} {xs : Array Operand} {tys : Array TypeId} : Wp (stepOp E call N ⟨some d, .call ⟨.value f, xs, tys⟩, ty, ps, af, gd⟩ σ) L =
    Br (d < N) (Wp (some (clear d σ)) fun σ => Wp (callAny E call N ty d σ f xs.toList) fun r => Wp (some (r.1.set d r.2)) L) False := by
  by_cases hd : d < N
  · simp only [stepOp, hd, if_true, br_true, wp_some, giveSt]
    have he : effOp E call N ⟨some d, .call ⟨.value f, xs, tys⟩, ty, ps, af, gd⟩ d (clear d σ) = callSt E call N ty d (clear d σ) f xs.toList := rfl
    have hp : pureOp E call N ⟨some d, .call ⟨.value f, xs, tys⟩, ty, ps, af, gd⟩ (clear d σ) = match opd E.T N ty (clear d σ) f with
      | .fn g [] => if (E.T.so g).isSome then none else if ((xs.toList.map (opd E.T N ty (clear d σ))).flatMap ghostsOf).isEmpty then (lendArgs 0 (xs.toList.map (opd E.T N ty (clear d σ)))).bind fun q => (call g q.1 []).bind fun r =>
          if r.boxes.length = 0 ∧ (r.res.cells.any CV.flag && !q.2.1.isEmpty) = false ∧ isRes r.res = true ∧ r.res.cells.all noBr = true then some (r.res.reflag q.2.2) else none
        else none
      | _ => none := rfl
    generalize clear d σ = τ at he hp ⊢
    rw [he, hp]
    have key : ∀ g, opd E.T N ty τ f = .fn g [] → E.T.so g = none → ((xs.toList.map (opd E.T N ty τ)).flatMap ghostsOf).isEmpty = true → _ := fun g h1 h0 h2 => callSt_plain (call := call) (d := d) h1 h0 (List.isEmpty_iff.1 h2)
    unfold callAny
    cases hf : opd E.T N ty τ f with
    | fn g caps =>
      cases caps with
      | nil =>
        cases hso : E.T.so g with
        | some h =>
          have : callSt E call N ty d τ f xs.toList = h d τ (xs.toList.map (opd E.T N ty τ)) := by
            unfold callSt
            simp only [hf, hso, if_true]
          simp only [hso, Option.isSome_some, if_true, soSel, this]
          simp
        | none =>
        simp only [hso, Option.isSome_none, Bool.false_eq_true, if_false, soSel]
        by_cases h2 : ((xs.toList.map (opd E.T N ty τ)).flatMap ghostsOf).isEmpty = true
        · simp only [h2, if_true, key g hf hso h2]
          cases lendArgs 0 (xs.toList.map (opd E.T N ty τ)) with
          | none => simp
          | some q =>
            simp only [Option.bind_some, wp_bind]
            cases hr : call g q.1 [] with
            | none => simp
            | some r =>
              simp only [Option.bind_some, wp_some, retIn]
              by_cases hc : r.boxes.length = 0 ∧ (r.res.cells.any CV.flag && !q.2.1.isEmpty) = false ∧ isRes r.res = true ∧ r.res.cells.all noBr = true
              · rw [if_pos hc, if_pos ⟨hc.1, hc.2.2⟩]
                cases hfl : r.res.cells.any CV.flag with
                | false => simp only [wp_some, Bool.false_eq_true, if_false]
                | true =>
                  have h9 := hc.2.1
                  rw [hfl] at h9
                  simp only [wp_some, if_true, back_some_or q.2.1 τ h9]
              · rw [if_neg hc]
                simp
        · simp [h2]
      | cons _ _ => simp
    | _ => simp
  · simp [stepOp, hd, Br]

@[simp↓] theorem wp_len {x : Operand} {t : TypeId} : Wp (stepOp E call N ⟨some d, .call ⟨.builtin .len, #[x], #[t]⟩, ty, ps, af, gd⟩ σ) L =
    Br (d < N) (Wp (some (clear d σ)) fun σ => Wp (lenSV E.T t (opd E.T N ty σ x)) fun v => Wp (some (σ.set d v)) L) False := by
  by_cases hd : d < N
  · simp only [stepOp, hd, if_true, br_true, wp_some, giveSt]
    have hp : pureOp E call N ⟨some d, .call ⟨.builtin .len, #[x], #[t]⟩, ty, ps, af, gd⟩ (clear d σ) = lenSV E.T t (opd E.T N ty (clear d σ) x) := rfl
    have he : effOp E call N ⟨some d, .call ⟨.builtin .len, #[x], #[t]⟩, ty, ps, af, gd⟩ d (clear d σ) = none := rfl
    rw [hp, he]
    cases lenSV E.T t (opd E.T N ty (clear d σ) x) <;> simp
  · simp [stepOp, hd, Br]

@[simp↓] theorem wp_append {x y : Operand} {t u : TypeId} : Wp (stepOp E call N ⟨some d, .call ⟨.builtin .append, #[x, y], #[t, u]⟩, ty, ps, af, gd⟩ σ) L =
    Br (d < N) (Wp (some (clear d σ)) fun σ => Br (((E.T.sl u).isSome || E.T.str u) = true) (Wp (appendSt E.T σ d t (opd E.T N ty σ x) (opd E.T N ty σ y)) fun r => Wp (some (r.1.set d r.2)) L) False) False := by
  by_cases hd : d < N
  · simp only [stepOp, hd, if_true, br_true, wp_some, giveSt]
    have hp : pureOp E call N ⟨some d, .call ⟨.builtin .append, #[x, y], #[t, u]⟩, ty, ps, af, gd⟩ (clear d σ) = none := rfl
    have he : effOp E call N ⟨some d, .call ⟨.builtin .append, #[x, y], #[t, u]⟩, ty, ps, af, gd⟩ d (clear d σ) = if ((E.T.sl u).isSome || E.T.str u) = true then appendSt E.T (clear d σ) d t (opd E.T N ty (clear d σ) x) (opd E.T N ty (clear d σ) y) else none := rfl
    rw [hp, he]
    simp only [wp_map, wp_ite, wp_none, wp_some]
  · simp [stepOp, hd, Br]

@[simp↓] theorem wp_min {x y : Operand} {ts : Array TypeId} : Wp (stepOp E call N ⟨some d, .call ⟨.builtin .min, #[x, y], ts⟩, ty, ps, af, gd⟩ σ) L =
    Br (d < N) (Wp (some (clear d σ)) fun σ => Wp (min2 (opd E.T N ty σ x) (opd E.T N ty σ y)) fun v => Wp (some (σ.set d v)) L) False := by
  by_cases hd : d < N
  · simp only [stepOp, hd, if_true, br_true, wp_some, giveSt]
    have hp : pureOp E call N ⟨some d, .call ⟨.builtin .min, #[x, y], ts⟩, ty, ps, af, gd⟩ (clear d σ) = foldSV min2 (opd E.T N ty (clear d σ) x) [opd E.T N ty (clear d σ) y] := rfl
    have he : effOp E call N ⟨some d, .call ⟨.builtin .min, #[x, y], ts⟩, ty, ps, af, gd⟩ d (clear d σ) = none := rfl
    rw [hp, he]
    simp only [foldSV]
    cases min2 (opd E.T N ty (clear d σ) x) (opd E.T N ty (clear d σ) y) <;> simp
  · simp [stepOp, hd, Br]
@[simp↓] theorem wp_max {x y : Operand} {ts : Array TypeId} : Wp (stepOp E call N ⟨some d, .call ⟨.builtin .max, #[x, y], ts⟩, ty, ps, af, gd⟩ σ) L =
    Br (d < N) (Wp (some (clear d σ)) fun σ => Wp (max2 (opd E.T N ty σ x) (opd E.T N ty σ y)) fun v => Wp (some (σ.set d v)) L) False := by
  by_cases hd : d < N
  · simp only [stepOp, hd, if_true, br_true, wp_some, giveSt]
    have hp : pureOp E call N ⟨some d, .call ⟨.builtin .max, #[x, y], ts⟩, ty, ps, af, gd⟩ (clear d σ) = foldSV max2 (opd E.T N ty (clear d σ) x) [opd E.T N ty (clear d σ) y] := rfl
    have he : effOp E call N ⟨some d, .call ⟨.builtin .max, #[x, y], ts⟩, ty, ps, af, gd⟩ d (clear d σ) = none := rfl
    rw [hp, he]
    simp only [foldSV]
    cases max2 (opd E.T N ty (clear d σ) x) (opd E.T N ty (clear d σ) y) <;> simp
  · simp [stepOp, hd, Br]
end

/-- The state that a call begins with. -/
def start (N : Nat) (args : List SV) (bs : List (List CV)) : St := args.map (shiftSV N) ++ List.replicate (N - args.length) .undef ++ bs.map (.c .box)
/-- What a call answers behind its code. -/
def finish (T : Tys) (N m : Nat) (rs : List ResultVar) (σ : St) : Option Ret :=
  (leaveRes T false N σ.length 0 rs σ).bind fun q =>
    (settles ((List.range m).map (N + ·)) q.1).bind fun σ =>
    (boxesAt σ ((List.range m).map (N + ·))).bind fun m => if m.all (·.all noBr) then some ⟨.c (shapeOf q.2.1) q.2.2, m⟩ else none
/-- The slots that a call in the caller's slots begins with. -/
def startI (N : Nat) (args : List SV) (σ : St) : St := args.map (SV.up N) ++ List.replicate (N - args.length) .undef ++ upSt N σ
/-- What it leaves. -/
def finishI (T : Tys) (N d : Nat) (rs : List ResultVar) (σ : St) : Option (St × SV) :=
  (leaveRes T true N (N + d) 0 rs (wipe (N + d) σ)).map fun q =>
      let σ := dnSt N (tidy N (List.range N) (q.1.set (N + d) (SV.c (shapeOf q.2.1) q.2.2)))
      (σ, σ.getD d .undef)
def ended : Ex → Prop
  | .exit _ => False
  | _ => True
@[simp] theorem ended_normal : ended .normal = True := rfl
@[simp] theorem ended_ret : ended .ret = True := rfl
@[simp] theorem ended_exit {i} : ended (.exit i) = False := rfl

theorem wp_pcall {E : Env} {n : Nat} {f : FuncId} {args : List SV} {bs : List (List CV)} {K : Ret → Prop} {fn : Func} {code : Code} (ho : E.orc f = none) (hf : E.fns f = some fn) (hb : fn.body = some code) (hl : args.length ≤ fn.ntmps)
    (h : Wp (runCode (E.run f (icall E n)) (pcall E n) fn.ntmps n code (start fn.ntmps args bs)) fun r => ended r.1 ∧ Wp (finish (E.run f (icall E n)).T fn.ntmps bs.length fn.results.toList r.2) K) : Wp (pcall E (n + 1) f args bs) K := by
  obtain ⟨⟨e, σ⟩, h1, h2, h3⟩ := h
  unfold start at h1
  simp only [pcall_succ, pbody, ho, hf, hb, Option.bind_some, hl, if_true, h1]
  cases e with
  | exit i => exact h2.elim
  | normal => exact h3
  | ret => exact h3
theorem wp_icall {E : Env} {n : Nat} {f : FuncId} {d : Nat} {τ : St} {args : List SV} {K : St × SV → Prop} {fn : Func} {code : Code} (hf : E.fns f = some fn) (hb : fn.body = some code) (hl : args.length ≤ fn.ntmps)
    (h : Wp (runCode (E.run f (icall E n)) (pcall E n) fn.ntmps n code (startI fn.ntmps args τ)) fun r => ended r.1 ∧ Wp (finishI (E.run f (icall E n)).T fn.ntmps d fn.results.toList r.2) K) : Wp (icall E (n + 1) f d τ args) K := by
  obtain ⟨⟨e, σ⟩, h1, h2, h3⟩ := h
  unfold startI at h1
  simp only [icall_succ, ibody, hf, hb, Option.bind_some, hl, if_true, h1]
  cases e with
  | exit i => exact h2.elim
  | normal => exact h3
  | ret => exact h3

/-- A loop: what holds at each round's head, and how many rounds are left at most. -/
theorem iter_wp {f : St → Option (Ex × St)} {K : Ex × St → Prop} (I : Nat → St → Prop) (h : ∀ k σ, I k σ → Wp (f σ) (cont (fun σ' => ∃ k', k' < k ∧ I k' σ') K)) : ∀ (n k : Nat) (σ : St), k < n → I k σ → Wp (iter f n σ) K
  | 0, k, σ, hk, _ => absurd hk (Nat.not_lt_zero _)
  | n + 1, k, σ, hk, hi => by
    obtain ⟨⟨e, σ'⟩, h1, h2⟩ := h k σ hi
    simp only [iter, h1, Option.bind_some]
    cases e with
    | normal =>
      obtain ⟨k', hk', hi'⟩ := h2
      exact iter_wp I h n k' σ' (by omega) hi'
    | exit i => exact wp_some ▸ h2
    | ret => exact wp_some ▸ h2
theorem wp_loop {E : Env} {call : CallF} {N n : Nat} {b : Code} {σ : St} {K : Ex × St → Prop} (I : Nat → St → Prop) (k : Nat) (hk : k < n) (hi : I k σ)
    (h : ∀ k σ, I k σ → Wp (some (tidy N (E.D (firstId b)) σ)) fun σ => Wp (runCode E call N n b σ) (cont (fun σ' => ∃ k', k' < k ∧ I k' σ') K)) : Wp (runCode E call N n (.loop b) σ) K := by
  simp only [runCode]
  exact iter_wp I (fun k σ hi => by have := h k σ hi; rwa [wp_some] at this) n k σ hk hi

end Go.Proofs.YtblelojdboefjaaDoor.R

/- Walking the evaluator by simp: what follows behind a step is carried as an instance, so that simp does not walk it before the step is done. -/
set_option linter.unusedVariables false
set_option linter.unusedSimpArgs false
namespace Go.Proofs.YtblelojdboefjaaDoor.R
open Go

class Kont (α : Type) where
  run : α → Prop
class Later where
  it : Prop
def Wq {α : Type} (x : Option α) [k : Kont α] : Prop := Wp x k.run
def Bq (c : Prop) [a : Later] [b : Later] : Prop := Br c a.it b.it
section
variable {α β : Type}
@[go_sem] theorem run_mk {f : α → Prop} {a : α} : (Kont.mk f).run a = f a := rfl
@[go_sem] theorem bq_true {A B : Later} : @Bq True A B = A.it := br_true
@[go_sem] theorem bq_false {A B : Later} : @Bq False A B = B.it := br_false
@[go_sem] theorem it_mk {p : Prop} : (Later.mk p).it = p := rfl
@[go_sem] theorem wq_some {a : α} {K : Kont α} : @Wq α (some a) K = K.run a := wp_some
@[go_sem] theorem wq_none {K : Kont α} : @Wq α none K = False := wp_none
@[go_sem ↓] theorem wq_bind {x : Option α} {g : α → Option β} {K : Kont β} : @Wq β (x.bind g) K = @Wq α x ⟨fun r => @Wq β (g r) K⟩ := wp_bind
@[go_sem ↓] theorem wq_map {x : Option α} {g : α → β} {K : Kont β} : @Wq β (x.map g) K = @Wq α x ⟨fun r => K.run (g r)⟩ := wp_map
@[go_sem ↓] theorem wq_ite {c : Prop} [Decidable c] {x y : Option α} {K : Kont α} : @Wq α (if c then x else y) K = @Bq c ⟨@Wq α x K⟩ ⟨@Wq α y K⟩ := wp_ite
@[go_sem] theorem bq_not {c : Prop} {A B : Later} : @Bq (¬c) A B = @Bq c B A := by
  unfold Bq Br; by_cases h : c <;> simp [h]
theorem bq_bool {b : Bool} {A B : Later} (h1 : b = true → A.it) (h2 : b = false → B.it) : @Bq (b = true) A B := ⟨h1, fun h => h2 (by simpa using h)⟩
theorem Wq.mono {x : Option α} {K L : Kont α} (h : @Wq α x K) (hk : ∀ r, K.run r → L.run r) : @Wq α x L := Wp.mono h hk
theorem wq_of {x : Option α} {r : α} {K : Kont α} (h : x = some r) (hk : K.run r) : @Wq α x K := wp_of h hk
theorem bq_mk {c : Prop} {A B : Later} (h1 : c → A.it) (h2 : ¬c → B.it) : @Bq c A B := ⟨h1, h2⟩
theorem bq_pos {c : Prop} {A B : Later} (h : c) (h1 : A.it) : @Bq c A B := br_pos h h1
theorem bq_neg {c : Prop} {A B : Later} (h : ¬c) (h1 : B.it) : @Bq c A B := br_neg h h1
end

attribute [go_sem ↓] cont_normal cont_exit cont_ret blk_normal blk_ret
@[go_sem ↓] theorem blk_exit' {i j : Nat} {K : Ex × St → Prop} {σ : St} : blk i K (.exit j, σ) = if j = i then K (.normal, σ) else K (.exit j, σ) := rfl

section
variable {E : Env} {call : CallF} {N n : Nat} {σ : St} {K : Kont (Ex × St)} {L : Kont St} {d : Tmp} {ty : TypeId} {ps : String} {af : Array Edge} {gd : Option (Nat × Bool)}
@[congr] theorem runCode_congr' {c : Code} {σ τ : St} (h : σ = τ) : runCode E call N n c σ = runCode E call N n c τ := by rw [h]
@[go_sem ↓] theorem qp_skip : @Wq _ (runCode E call N n .skip σ) K = @Wq _ (some σ) ⟨fun σ => K.run (.normal, σ)⟩ := wp_skip
@[go_sem ↓] theorem qp_label {l} : @Wq _ (runCode E call N n (.label l) σ) K = @Wq _ (some σ) ⟨fun σ => K.run (.normal, σ)⟩ := wp_label
@[go_sem ↓] theorem qp_exit {i} : @Wq _ (runCode E call N n (.exit i) σ) K = @Wq _ (some σ) ⟨fun σ => K.run (.exit i, σ)⟩ := wp_exit
@[go_sem ↓] theorem qp_ret : @Wq _ (runCode E call N n .ret σ) K = @Wq _ (some σ) ⟨fun σ => K.run (.ret, σ)⟩ := wp_ret
@[go_sem ↓] theorem qp_seq {a b : Code} : @Wq _ (runCode E call N n (.seq a b) σ) K = @Wq _ (runCode E call N n a σ) ⟨cont (fun σ => @Wq _ (runCode E call N n b σ) K) K.run⟩ := wp_seq
@[go_sem ↓] theorem qp_cond {c : Operand} {t e : Code} : @Wq _ (runCode E call N n (.cond c t e) σ) K = @Wq _ (some σ) ⟨fun σ => @Wq _ (opd E.T N 0 σ c).bool? ⟨fun x => @Bq (x = true) ⟨@Wq _ (runCode E call N n t σ) K⟩ ⟨@Wq _ (runCode E call N n e σ) K⟩⟩⟩ := wp_cond
@[go_sem ↓] theorem qp_block {id : Nat} {b : Code} : @Wq _ (runCode E call N n (.block id b) σ) K = @Wq _ (runCode E call N n b σ) ⟨blk id K.run⟩ := wp_block
@[go_sem ↓] theorem qp_region {id : Nat} {ops : Array Oper} : @Wq _ (runCode E call N n (.region id ops false) σ) K = @Wq _ (runL E call N ops ops.toList σ) ⟨fun σ => K.run (.normal, σ)⟩ := wp_region
@[go_sem ↓] theorem qp_nil {ops : Array Oper} : @Wq _ (runL E call N ops [] σ) L = @Wq _ (some σ) L := wp_nil
@[go_sem ↓] theorem qp_cons {ops : Array Oper} {d : Option Tmp} {op : Op} {ty : TypeId} {ps : String} {af : Array Edge} {r : List Oper} : @Wq _ (runL E call N ops (⟨d, op, ty, ps, af, none⟩ :: r) σ) L = @Wq _ (stepOp E call N ⟨d, op, ty, ps, af, none⟩ σ) ⟨fun σ => @Wq _ (runL E call N ops r σ) L⟩ := wp_cons
@[go_sem ↓] theorem qp_cons_guard {ops : Array Oper} {d : Tmp} {op : Op} {ty : TypeId} {ps : String} {af : Array Edge} {j : Nat} {want : Bool} {r : List Oper} : @Wq _ (runL E call N ops (⟨some d, op, ty, ps, af, some (j, want)⟩ :: r) σ) L = @Wq _ (some σ) ⟨fun σ => @Wq _ ((ops[j]?).bind (·.dst)) ⟨fun t => @Bq (t < N ∧ d < N) ⟨@Wq _ (gval (σ.getD t .undef)) ⟨fun b => @Bq (b = some want) ⟨@Wq _ (stepOp E call N ⟨some d, op, ty, ps, af, some (j, want)⟩ σ) ⟨fun σ => @Wq _ (runL E call N ops r σ) L⟩⟩ ⟨@Wq _ (some ((clear d σ).set d skipSV)) ⟨fun σ => @Wq _ (runL E call N ops r σ) L⟩⟩⟩⟩ ⟨False⟩⟩⟩ := wp_cons_guard
@[go_sem ↓] theorem qp_move {x} : @Wq _ (stepOp E call N ⟨some d, .move x, ty, ps, af, gd⟩ σ) L = @Bq (d < N) ⟨@Wq _ (some (clear d σ)) ⟨fun σ => @Wq _ (some (σ.set d (opd E.T N ty σ x))) L⟩⟩ ⟨False⟩ := wp_move
@[go_sem ↓] theorem qp_pick {c a b} : @Wq _ (stepOp E call N ⟨some d, .pick c a b, ty, ps, af, gd⟩ σ) L = @Bq (d < N) ⟨@Wq _ (some (clear d σ)) ⟨fun σ => @Wq _ (opd E.T N ty σ c).bool? ⟨fun t => @Wq _ (some (σ.set d (if t then opd E.T N ty σ a else opd E.T N ty σ b))) L⟩⟩⟩ ⟨False⟩ := wp_pick
@[go_sem ↓] theorem qp_bin {op t x y u} : @Wq _ (stepOp E call N ⟨some d, .binOp op t x y u, ty, ps, af, gd⟩ σ) L = @Bq (d < N) ⟨@Wq _ (some (clear d σ)) ⟨fun σ => @Wq _ (binSV E.T op t (opd E.T N ty σ x) (opd E.T N ty σ y)) ⟨fun v => @Wq _ (some (σ.set d (pvSV v))) L⟩⟩⟩ ⟨False⟩ := wp_bin
@[go_sem ↓] theorem qp_un {op t x} : @Wq _ (stepOp E call N ⟨some d, .unOp op t x, ty, ps, af, gd⟩ σ) L = @Bq (d < N) ⟨@Wq _ (some (clear d σ)) ⟨fun σ => @Wq _ (unSV op (opd E.T N ty σ x)) ⟨fun v => @Wq _ (some (σ.set d (pvSV v))) L⟩⟩⟩ ⟨False⟩ := wp_un
@[go_sem ↓] theorem qp_conv {s t x} : @Wq _ (stepOp E call N ⟨some d, .convert s t x, ty, ps, af, gd⟩ σ) L = @Bq (d < N) ⟨@Wq _ (some (clear d σ)) ⟨fun σ => @Wq _ (convSV E.T s t (opd E.T N ty σ x)) ⟨fun v => @Wq _ (some (σ.set d v)) L⟩⟩⟩ ⟨False⟩ := wp_conv
@[go_sem ↓] theorem qp_fieldAddr {t x f} : @Wq _ (stepOp E call N ⟨some d, .fieldAddr t x f, ty, ps, af, gd⟩ σ) L = @Bq (d < N) ⟨@Wq _ (some (clear d σ)) ⟨fun σ => @Wq _ (fieldSV E.T t (opd E.T N ty σ x) f) ⟨fun v => @Wq _ (some (σ.set d v)) L⟩⟩⟩ ⟨False⟩ := wp_fieldAddr
@[go_sem ↓] theorem qp_indexAddr {t x i} : @Wq _ (stepOp E call N ⟨some d, .indexAddr t x i, ty, ps, af, gd⟩ σ) L = @Bq (d < N) ⟨@Wq _ (some (clear d σ)) ⟨fun σ => @Wq _ (indexSV E.T t (opd E.T N ty σ x) (opd E.T N ty σ i)) ⟨fun v => @Wq _ (some (σ.set d v)) L⟩⟩⟩ ⟨False⟩ := wp_indexAddr
@[go_sem ↓] theorem qp_index {t x i} : @Wq _ (stepOp E call N ⟨some d, .index t x i, ty, ps, af, gd⟩ σ) L = @Bq (d < N) ⟨@Wq _ (some (clear d σ)) ⟨fun σ => @Wq _ (charSV E.T t (opd E.T N ty σ x) (opd E.T N ty σ i)) ⟨fun v => @Wq _ (some (σ.set d v)) L⟩⟩⟩ ⟨False⟩ := wp_index
@[go_sem ↓] theorem qp_load {t x} : @Wq _ (stepOp E call N ⟨some d, .load t x, ty, ps, af, gd⟩ σ) L = @Bq (d < N) ⟨@Wq _ (some (clear d σ)) ⟨fun σ => @Wq _ (loadSV E.T σ t (opd E.T N ty σ x)) ⟨fun v => @Wq _ (some (σ.set d v)) L⟩⟩⟩ ⟨False⟩ := wp_load
@[go_sem ↓] theorem qp_extract {x i} : @Wq _ (stepOp E call N ⟨some d, .extract x i, ty, ps, af, gd⟩ σ) L = @Bq (d < N) ⟨@Wq _ (some (clear d σ)) ⟨fun σ => @Wq _ (extSV (opd E.T N ty σ x) i) ⟨fun v => @Wq _ (some (σ.set d v)) L⟩⟩⟩ ⟨False⟩ := wp_extract
@[go_sem ↓] theorem qp_slice {t x lo hi} : @Wq _ (stepOp E call N ⟨some d, .slice t x lo hi none, ty, ps, af, gd⟩ σ) L = @Bq (d < N) ⟨@Wq _ (some (clear d σ)) ⟨fun σ => @Wq _ (sliceSV E.T t (opd E.T N ty σ x) (lo.map (opd E.T N ty σ)) (hi.map (opd E.T N ty σ))) ⟨fun v => @Wq _ (some (σ.set d v)) L⟩⟩⟩ ⟨False⟩ := wp_slice
@[go_sem ↓] theorem qp_nilCheck {x} : @Wq _ (stepOp E call N ⟨some d, .nilCheck x, ty, ps, af, gd⟩ σ) L = @Bq (d < N) ⟨@Wq _ (some (clear d σ)) ⟨fun σ => @Bq (guardPt (opd E.T N ty σ x) = true) ⟨@Wq _ (some (σ.set d (opd E.T N ty σ x))) L⟩ ⟨False⟩⟩⟩ ⟨False⟩ := wp_nilCheck
@[go_sem ↓] theorem qp_build {t ps'} : @Wq _ (stepOp E call N ⟨some d, .build t ps', ty, ps, af, gd⟩ σ) L = @Bq (d < N) ⟨@Wq _ (some (clear d σ)) ⟨fun σ => @Wq _ (E.T.zr t) ⟨fun z => @Wq _ (E.T.ag t) ⟨fun a => @Bq (a = true) ⟨@Wq _ (fillSV E.T t (ps'.toList.map fun p => (p.1, opd E.T N ty σ p.2)) (z.map (PV.cv false))) ⟨fun l => @Wq _ (some (σ.set d (.c .agg l))) L⟩⟩ ⟨False⟩⟩⟩⟩⟩ ⟨False⟩ := wp_build
@[go_sem ↓] theorem qp_makeFunc {g caps} : @Wq _ (stepOp E call N ⟨some d, .makeFunc (.func g) #[] caps, ty, ps, af, gd⟩ σ) L = @Bq (d < N) ⟨@Wq _ (some (clear d σ)) ⟨fun σ => @Wq _ (caps.toList.mapM fun x => slotOf (opd E.T N ty σ x)) ⟨fun l => @Wq _ (some (σ.set d (.fn g l))) L⟩⟩⟩ ⟨False⟩ := wp_makeFunc
@[go_sem ↓] theorem qp_makeSlice {t n m} : @Wq _ (stepOp E call N ⟨some d, .makeSlice t n m, ty, ps, af, gd⟩ σ) L = @Bq (d < N) ⟨@Wq _ (some (clear d σ)) ⟨fun σ => @Wq _ (makeSV E.T t (opd E.T N ty σ n) (opd E.T N ty σ m)) ⟨fun v => @Wq _ (some (σ.set d v)) L⟩⟩⟩ ⟨False⟩ := wp_makeSlice
@[go_sem ↓] theorem qp_assign {x} : @Wq _ (stepOp E call N ⟨some d, .assign x, ty, ps, af, gd⟩ σ) L = @Bq (d < N) ⟨@Wq _ (some (clear d (giveSt d (.assign x) σ))) ⟨fun σ => @Wq _ (asgSV (kpOf E.T N) d (opd E.T N ty σ x) σ) ⟨fun r => @Wq _ (some (r.1.set d r.2)) L⟩⟩⟩ ⟨False⟩ := wp_assign
@[go_sem ↓] theorem qp_alloc {t} : @Wq _ (stepOp E call N ⟨some d, .alloc t, ty, ps, af, gd⟩ σ) L = @Bq (d < N) ⟨@Wq _ (some (clear d σ)) ⟨fun σ => @Wq _ (E.T.zr t) ⟨fun z => @Wq _ (some (σ.set d (.c .box (z.map (PV.cv false))))) L⟩⟩⟩ ⟨False⟩ := wp_alloc
@[go_sem ↓] theorem qp_box {t x} : @Wq _ (stepOp E call N ⟨some d, .box t x, ty, ps, af, gd⟩ σ) L = @Bq (d < N) ⟨@Wq _ (some (clear d σ)) ⟨fun σ => @Wq _ (E.T.sz t) ⟨fun n => @Wq _ (cells? (opd E.T N ty σ x)) ⟨fun cs => @Bq (cs.length = n) ⟨@Wq _ (persistAll (kpOf E.T N) d 0 cs σ) ⟨fun r => @Wq _ (some (r.1.set d (.c .box r.2))) L⟩⟩ ⟨False⟩⟩⟩⟩⟩ ⟨False⟩ := wp_box
@[go_sem ↓] theorem qp_store {t a x} : @Wq _ (stepOp E call N ⟨none, .store t a x, ty, ps, af, gd⟩ σ) L = @Wq _ (storeSt E.T N ty σ t a x) L := wp_store
@[go_sem ↓] theorem qp_clear {x : Operand} {t : TypeId} : @Wq _ (stepOp E call N ⟨none, .call ⟨.builtin .clear, #[x], #[t]⟩, ty, ps, af, gd⟩ σ) L = @Wq _ (zeroSt E.T σ t (opd E.T N ty σ x)) L := wp_clear
@[go_sem ↓] theorem qp_call {f : Operand} {xs : Array Operand} {tys : Array TypeId} : @Wq _ (stepOp E call N ⟨some d, .call ⟨.value f, xs, tys⟩, ty, ps, af, gd⟩ σ) L = @Bq (d < N) ⟨@Wq _ (some (clear d σ)) ⟨fun σ => @Wq _ (callAny E call N ty d σ f xs.toList) ⟨fun r => @Wq _ (some (r.1.set d r.2)) L⟩⟩⟩ ⟨False⟩ := wp_call
@[go_sem ↓] theorem qp_len {x : Operand} {t : TypeId} : @Wq _ (stepOp E call N ⟨some d, .call ⟨.builtin .len, #[x], #[t]⟩, ty, ps, af, gd⟩ σ) L = @Bq (d < N) ⟨@Wq _ (some (clear d σ)) ⟨fun σ => @Wq _ (lenSV E.T t (opd E.T N ty σ x)) ⟨fun v => @Wq _ (some (σ.set d v)) L⟩⟩⟩ ⟨False⟩ := wp_len
@[go_sem ↓] theorem qp_append {x y : Operand} {t u : TypeId} : @Wq _ (stepOp E call N ⟨some d, .call ⟨.builtin .append, #[x, y], #[t, u]⟩, ty, ps, af, gd⟩ σ) L = @Bq (d < N) ⟨@Wq _ (some (clear d σ)) ⟨fun σ => @Bq (((E.T.sl u).isSome || E.T.str u) = true) ⟨@Wq _ (appendSt E.T σ d t (opd E.T N ty σ x) (opd E.T N ty σ y)) ⟨fun r => @Wq _ (some (r.1.set d r.2)) L⟩⟩ ⟨False⟩⟩⟩ ⟨False⟩ := wp_append
@[go_sem ↓] theorem qp_min {x y : Operand} {ts : Array TypeId} : @Wq _ (stepOp E call N ⟨some d, .call ⟨.builtin .min, #[x, y], ts⟩, ty, ps, af, gd⟩ σ) L = @Bq (d < N) ⟨@Wq _ (some (clear d σ)) ⟨fun σ => @Wq _ (min2 (opd E.T N ty σ x) (opd E.T N ty σ y)) ⟨fun v => @Wq _ (some (σ.set d v)) L⟩⟩⟩ ⟨False⟩ := wp_min
@[go_sem ↓] theorem qp_max {x y : Operand} {ts : Array TypeId} : @Wq _ (stepOp E call N ⟨some d, .call ⟨.builtin .max, #[x, y], ts⟩, ty, ps, af, gd⟩ σ) L = @Bq (d < N) ⟨@Wq _ (some (clear d σ)) ⟨fun σ => @Wq _ (max2 (opd E.T N ty σ x) (opd E.T N ty σ y)) ⟨fun v => @Wq _ (some (σ.set d v)) L⟩⟩⟩ ⟨False⟩ := wp_max
end

theorem wq_pcall {E : Env} {n : Nat} {f : FuncId} {args : List SV} {bs : List (List CV)} {K : Kont Ret} {fn : Func} {code : Code} (ho : E.orc f = none) (hf : E.fns f = some fn) (hb : fn.body = some code) (hl : args.length ≤ fn.ntmps)
    (h : @Wq _ (runCode (E.run f (icall E n)) (pcall E n) fn.ntmps n code (start fn.ntmps args bs)) ⟨fun r => ended r.1 ∧ @Wq _ (finish (E.run f (icall E n)).T fn.ntmps bs.length fn.results.toList r.2) K⟩) : @Wq _ (pcall E (n + 1) f args bs) K := wp_pcall ho hf hb hl h
theorem wq_icall {E : Env} {n : Nat} {f : FuncId} {d : Nat} {τ : St} {args : List SV} {K : Kont (St × SV)} {fn : Func} {code : Code} (hf : E.fns f = some fn) (hb : fn.body = some code) (hl : args.length ≤ fn.ntmps)
    (h : @Wq _ (runCode (E.run f (icall E n)) (pcall E n) fn.ntmps n code (startI fn.ntmps args τ)) ⟨fun r => ended r.1 ∧ @Wq _ (finishI (E.run f (icall E n)).T fn.ntmps d fn.results.toList r.2) K⟩) : @Wq _ (icall E (n + 1) f d τ args) K := wp_icall hf hb hl h
theorem wq_loop {E : Env} {call : CallF} {N n : Nat} {b : Code} {σ : St} {K : Kont (Ex × St)} (I : Nat → St → Prop) (k : Nat) (hk : k < n) (hi : I k σ)
    (h : ∀ k σ, I k σ → @Wq _ (some (tidy N (E.D (firstId b)) σ)) ⟨fun σ => @Wq _ (runCode E call N n b σ) ⟨cont (fun σ' => ∃ k', k' < k ∧ I k' σ') K.run⟩⟩) : @Wq _ (runCode E call N n (.loop b) σ) K := wp_loop I k hk hi h
theorem wq_eq {α : Type} {x : Option α} {r : α} (h : @Wq α x ⟨fun s => s = r⟩) : x = some r := wp_eq h

end Go.Proofs.YtblelojdboefjaaDoor.R

/- Walking the evaluator: values. -/
set_option linter.unusedVariables false
set_option linter.unusedSimpArgs false
namespace Go.Proofs.YtblelojdboefjaaDoor.R
open Go

section
variable {T : Tys} {N : Nat} {ty : TypeId} {σ : St}
@[go_sem] theorem opd_tmp {t : Nat} : opd T N ty σ (.tmp t) = if t < N then (σ.getD t .undef).view t else .undef := rfl
@[go_sem] theorem opd_const {v : Value} : opd T N ty σ (.const v) = constSV T ty v := rfl
@[go_sem] theorem opd_func {f : FuncId} : opd T N ty σ (.func f) = .fn f [] := rfl
@[go_sem] theorem const_int {k n} : constSV T ty (.int k n) = .c .one [.sh false (.i k n)] := rfl
@[go_sem] theorem const_bool {b} : constSV T ty (.bool b) = .c .one [.sh false (.b b)] := rfl
@[go_sem] theorem const_str {s} : constSV T ty (.string s) = .c .one [.sh false (.t s)] := rfl
theorem const_nil {es : Nat} (h : (T.sl ty).bind T.sz = some es) : constSV T ty (.slice none 0 0) = .c .one [.ow false es []] := by simp [constSV, h]
@[go_sem] theorem const_nil' : constSV T ty (.slice none 0 0) = match (T.sl ty).bind T.sz with
    | some es => .c .one [.ow false es []]
    | none => .undef := rfl

@[go_sem] theorem view_skip {k} : skipSV.view k = skipSV := rfl
@[go_sem] theorem mapC_skip {g e} : skipSV.mapC g e = skipSV := rfl
@[go_sem] theorem cut_skip {s} : skipSV.cut s = skipSV := rfl
@[go_sem] theorem cut_undef {s} : SV.undef.cut s = .undef := rfl
@[go_sem] theorem cut_c {s sh l} : (SV.c sh l).cut s = .c sh l := rfl
@[go_sem] theorem cut_bp {s a o} : (SV.bp a o).cut s = if a = s then .undef else .bp a o := rfl
@[go_sem] theorem cut_ep {t s o q kd fl es i f row} : (SV.ep s o q kd fl es i f row).cut t = .ep s o q kd fl es i f row := rfl
@[go_sem] theorem cut_sp {t fl row f} : (SV.sp fl row f).cut t = .sp fl row f := rfl
@[go_sem] theorem cut_fn {s g caps} : (SV.fn g caps).cut s = if caps.contains s then .undef else .fn g caps := rfl
@[go_sem] theorem gval_skip : gval skipSV = some none := rfl
@[go_sem] theorem gval_bool {f b} : gval (.c .one [.sh f (.b b)]) = some (some b) := rfl
@[go_sem] theorem none_some {α : Type} {a : α} : (none = some a) = False := by simp
@[go_sem] theorem some_some {α : Type} {a b : α} : (some a = some b) = (a = b) := by simp
@[go_sem] theorem view_undef {k} : SV.undef.view k = .undef := rfl
@[go_sem] theorem view_box {k l} : (SV.c .box l).view k = .bp k 0 := rfl
@[go_sem] theorem view_one {k l} : (SV.c .one l).view k = .c .one (mapAll (CV.view k) 0 l) := rfl
@[go_sem] theorem view_agg {k l} : (SV.c .agg l).view k = .c .agg (mapAll (CV.view k) 0 l) := rfl
@[go_sem] theorem view_tup {k s l} : (SV.c (.tup s) l).view k = .c (.tup s) (mapAll (CV.view k) 0 l) := rfl
@[go_sem] theorem view_bp {k s o} : (SV.bp s o).view k = .bp s o := rfl
@[go_sem] theorem view_ep {k s o q kd fl es i f row} : (SV.ep s o q kd fl es i f row).view k = .ep s o q kd fl es i f row := rfl
@[go_sem] theorem view_sp {k fl row f} : (SV.sp fl row f).view k = .sp fl row f := rfl
@[go_sem] theorem view_fn {k g caps} : (SV.fn g caps).view k = .fn g caps := rfl
@[go_sem] theorem cview_sh {k j f p} : (CV.sh f p).view k j = .sh f p := rfl
@[go_sem] theorem cview_ow {k j f es rows} : (CV.ow f es rows).view k j = .br k j [] 0 0 f es rows := rfl
@[go_sem] theorem cview_br {k j s o q kd lo f es rows} : (CV.br s o q kd lo f es rows).view k j = .br s o q kd lo f es rows := rfl
@[go_sem] theorem cview_dead {k j} : CV.dead.view k j = .dead := rfl
@[go_sem] theorem mapAll_nil {g j} : mapAll g j [] = [] := rfl
@[go_sem] theorem mapAll_cons {g j c l} : mapAll g j (c :: l) = g j c :: mapAll g (j + 1) l := rfl
@[go_sem] theorem pvSV_eq {p} : pvSV p = .c .one [.sh false p] := rfl

@[go_sem] theorem one_one {y} : (SV.c .one [y]).one? = some y := rfl
@[go_sem] theorem pv_sh {f p} : (SV.c .one [.sh f p]).pv? = some p := rfl
@[go_sem] theorem pv_ow {f es rows} : (SV.c .one [.ow f es rows]).pv? = some (.s es (erRows rows)) := rfl
@[go_sem] theorem pv_br {s o q kd lo f es rows} : (SV.c .one [.br s o q kd lo f es rows]).pv? = some (.s es (erRows rows)) := rfl
@[go_sem] theorem int_sh {f k n} : (SV.c .one [.sh f (.i k n)]).int? = some (k, n) := rfl
@[go_sem] theorem bool_sh {f b} : (SV.c .one [.sh f (.b b)]).bool? = some b := rfl
@[go_sem] theorem cp_sh {f p} : (CV.sh f p).p? = some (f, p) := rfl
@[go_sem] theorem cp_ow {f es rows} : (CV.ow f es rows).p? = some (f, .s es (erRows rows)) := rfl
@[go_sem] theorem cp_br {s o q kd lo f es rows} : (CV.br s o q kd lo f es rows).p? = some (f, .s es (erRows rows)) := rfl

def isShift : BinOp → Bool
  | .shl | .shr => true
  | _ => false
/-- Whole numbers bit by bit. -/
def andI (k : IntKind) (a b : Int) : Int := k.wrap (BitVec.ofInt k.bits a &&& BitVec.ofInt k.bits b).toNat
def orI (k : IntKind) (a b : Int) : Int := k.wrap (BitVec.ofInt k.bits a ||| BitVec.ofInt k.bits b).toNat
def xorI (k : IntKind) (a b : Int) : Int := k.wrap (BitVec.ofInt k.bits a ^^^ BitVec.ofInt k.bits b).toNat
theorem bin_int {op : BinOp} (h : isShift op = false) {t f g k a b} : binSV T op t (.c .one [.sh f (.i k a)]) (.c .one [.sh g (.i k b)]) = intOp op k a b := by
  cases op <;> simp [isShift] at h <;> simp [binSV, pv_sh]
@[go_sem] theorem bin_shl {t f g k k' a b} : binSV T .shl t (.c .one [.sh f (.i k a)]) (.c .one [.sh g (.i k' b)]) = shiftOp .shl k a b := rfl
@[go_sem] theorem bin_shr {t f g k k' a b} : binSV T .shr t (.c .one [.sh f (.i k a)]) (.c .one [.sh g (.i k' b)]) = shiftOp .shr k a b := rfl
section
variable {t : TypeId} {f g : Bool} {k : IntKind} {a b : Int}
@[go_sem] theorem bin_add : binSV T .add t (.c .one [.sh f (.i k a)]) (.c .one [.sh g (.i k b)]) = some (.i k (k.wrap (a + b))) := by rw [bin_int rfl]; rfl
@[go_sem] theorem bin_sub : binSV T .sub t (.c .one [.sh f (.i k a)]) (.c .one [.sh g (.i k b)]) = some (.i k (k.wrap (a - b))) := by rw [bin_int rfl]; rfl
@[go_sem] theorem bin_mul : binSV T .mul t (.c .one [.sh f (.i k a)]) (.c .one [.sh g (.i k b)]) = some (.i k (k.wrap (a * b))) := by rw [bin_int rfl]; rfl
@[go_sem] theorem bin_quo : binSV T .quo t (.c .one [.sh f (.i k a)]) (.c .one [.sh g (.i k b)]) = if b = 0 then none else some (.i k (k.wrap (a.tdiv b))) := by rw [bin_int rfl]; rfl
@[go_sem] theorem bin_rem : binSV T .rem t (.c .one [.sh f (.i k a)]) (.c .one [.sh g (.i k b)]) = if b = 0 then none else some (.i k (a.tmod b)) := by rw [bin_int rfl]; rfl
@[go_sem] theorem bin_and : binSV T .and t (.c .one [.sh f (.i k a)]) (.c .one [.sh g (.i k b)]) = some (.i k (andI k a b)) := by rw [bin_int rfl]; rfl
@[go_sem] theorem bin_or : binSV T .or t (.c .one [.sh f (.i k a)]) (.c .one [.sh g (.i k b)]) = some (.i k (orI k a b)) := by rw [bin_int rfl]; rfl
@[go_sem] theorem bin_xor : binSV T .xor t (.c .one [.sh f (.i k a)]) (.c .one [.sh g (.i k b)]) = some (.i k (xorI k a b)) := by rw [bin_int rfl]; rfl
@[go_sem] theorem bin_eql : binSV T .eql t (.c .one [.sh f (.i k a)]) (.c .one [.sh g (.i k b)]) = some (.b (a == b)) := by rw [bin_int rfl]; rfl
@[go_sem] theorem bin_neq : binSV T .neq t (.c .one [.sh f (.i k a)]) (.c .one [.sh g (.i k b)]) = some (.b (a != b)) := by rw [bin_int rfl]; rfl
@[go_sem] theorem bin_lss : binSV T .lss t (.c .one [.sh f (.i k a)]) (.c .one [.sh g (.i k b)]) = some (.b (a < b)) := by rw [bin_int rfl]; rfl
@[go_sem] theorem bin_leq : binSV T .leq t (.c .one [.sh f (.i k a)]) (.c .one [.sh g (.i k b)]) = some (.b (a ≤ b)) := by rw [bin_int rfl]; rfl
@[go_sem] theorem bin_gtr : binSV T .gtr t (.c .one [.sh f (.i k a)]) (.c .one [.sh g (.i k b)]) = some (.b (a > b)) := by rw [bin_int rfl]; rfl
@[go_sem] theorem bin_geq : binSV T .geq t (.c .one [.sh f (.i k a)]) (.c .one [.sh g (.i k b)]) = some (.b (a ≥ b)) := by rw [bin_int rfl]; rfl
variable {x y : ByteArray}
theorem bin_str {op : BinOp} : binSV T op t (.c .one [.sh f (.t x)]) (.c .one [.sh g (.t y)]) = strOp op x y := by
  cases op <;> rfl
@[go_sem] theorem bin_cat : binSV T .add t (.c .one [.sh f (.t x)]) (.c .one [.sh g (.t y)]) = if ((x.size + y.size : Nat) : Int) > IntKind.i64.max then none else some (.t (x ++ y)) := rfl
@[go_sem] theorem bin_seql : binSV T .eql t (.c .one [.sh f (.t x)]) (.c .one [.sh g (.t y)]) = some (.b (x.toList == y.toList)) := rfl
@[go_sem] theorem bin_sneq : binSV T .neq t (.c .one [.sh f (.t x)]) (.c .one [.sh g (.t y)]) = some (.b !(x.toList == y.toList)) := rfl
@[go_sem] theorem bin_slss : binSV T .lss t (.c .one [.sh f (.t x)]) (.c .one [.sh g (.t y)]) = some (.b (Op.bytesLess x.toList y.toList)) := rfl
@[go_sem] theorem bin_sleq : binSV T .leq t (.c .one [.sh f (.t x)]) (.c .one [.sh g (.t y)]) = some (.b (Op.bytesLess x.toList y.toList || x.toList == y.toList)) := rfl
@[go_sem] theorem bin_sgtr : binSV T .gtr t (.c .one [.sh f (.t x)]) (.c .one [.sh g (.t y)]) = some (.b !(Op.bytesLess x.toList y.toList || x.toList == y.toList)) := rfl
@[go_sem] theorem bin_sgeq : binSV T .geq t (.c .one [.sh f (.t x)]) (.c .one [.sh g (.t y)]) = some (.b !(Op.bytesLess x.toList y.toList)) := rfl
variable {p q : Bool}
@[go_sem] theorem bin_beql : binSV T .eql t (.c .one [.sh f (.b p)]) (.c .one [.sh g (.b q)]) = if T.boo t then some (.b (p == q)) else none := by simp [binSV, pv_sh]
@[go_sem] theorem bin_bneq : binSV T .neq t (.c .one [.sh f (.b p)]) (.c .one [.sh g (.b q)]) = if T.boo t then some (.b !(p == q)) else none := by simp [binSV, pv_sh]
@[go_sem] theorem un_not : unSV .not (.c .one [.sh f (.b p)]) = some (.b !p) := rfl
@[go_sem] theorem un_xor : unSV .xor (.c .one [.sh f (.i k a)]) = some (.i k (xorI k (if k.signed then -1 else k.max) a)) := rfl
@[go_sem] theorem un_neg : unSV .neg (.c .one [.sh f (.i k a)]) = some (.i k (k.wrap (0 - a))) := rfl
end

/-- Each owned cell of the list l, which lies in slot d from place j on, is let go. -/
def demL (d : Nat) : Nat → List CV → St → St
  | _, [], σ => σ
  | j, c :: l, σ => demL d (j + 1) l (if c.isOw then demote d j σ else σ)
theorem demL_all {d : Nat} : ∀ (l : List CV) (j : Nat) (σ : St), (∀ i, i < l.length → (cellAt σ d (j + i)).isOw = (l.getD i .dead).isOw) → demoteAll d j l.length σ = demL d j l σ
  | [], j, σ, h => rfl
  | c :: l, j, σ, h => by
    have h0 := h 0 (by simp)
    simp only [Nat.add_zero, List.getD_cons_zero] at h0
    simp only [List.length_cons, demoteAll, demL, h0]
    refine demL_all l (j + 1) _ fun i hi => ?_
    have h1 := h (i + 1) (by simp only [List.length_cons]; omega)
    rw [List.getD_cons_succ] at h1
    rw [← h1, show j + 1 + i = j + (i + 1) from by omega]
    split
    · cases hb : (cellAt σ d (j + (i + 1))).isOw with
      | false => exact isOw_map _ _ _ _ _ rfl (fun c hc => by
        cases c with
        | ow => simp [CV.isOw] at hc
        | br => simp only [demC]; split <;> rfl
        | _ => rfl) hb
      | true =>
        unfold demote
        rw [cellAt_map_ow _ _ _ _ _ rfl hb]
        cases hc : cellAt σ d (j + (i + 1)) with
        | ow f es rows =>
          simp only [demC]
          rw [if_neg (by omega)]; rfl
        | _ => rw [hc] at hb; simp [CV.isOw] at hb
    · rfl
def clearWith (x : SV) (d : Nat) (σ : St) : St :=
  match x with
  | .c .box l => ((demL d 0 l σ).map (SV.cut d)).set d .undef
  | .c _ l => demL d 0 l σ
  | _ => σ
theorem clear_with {d : Nat} : clear d σ = clearWith (σ.getD d .undef) d σ := by
  have key : ∀ sh l, σ.getD d .undef = .c sh l → demoteAll d 0 l.length σ = demL d 0 l σ := fun sh l h => demL_all l 0 σ fun i hi => by
    simp only [cellAt, h, Nat.zero_add]
  unfold clear clearWith
  generalize hx : σ.getD d .undef = x at key ⊢
  cases x with
  | c sh l =>
    have := key sh l rfl
    cases sh <;> simp only [this]
  | _ => rfl
@[go_sem ↓] theorem clear_eq {d : Nat} : clear d σ = clearWith (σ.getD d .undef) d σ := clear_with
@[go_sem] theorem cl_skip {d} : clearWith skipSV d σ = σ := rfl
@[go_sem] theorem cl_undef {d} : clearWith .undef d σ = σ := rfl
@[go_sem] theorem cl_bp {d s o} : clearWith (.bp s o) d σ = σ := rfl
@[go_sem] theorem cl_ep {d s o q kd fl es i f row} : clearWith (.ep s o q kd fl es i f row) d σ = σ := rfl
@[go_sem] theorem cl_sp {d fl row f} : clearWith (.sp fl row f) d σ = σ := rfl
@[go_sem] theorem cl_fn {d g caps} : clearWith (.fn g caps) d σ = σ := rfl
@[go_sem] theorem cl_box {d l} : clearWith (.c .box l) d σ = ((demL d 0 l σ).map (SV.cut d)).set d .undef := rfl
@[go_sem] theorem cl_one {d l} : clearWith (.c .one l) d σ = demL d 0 l σ := rfl
@[go_sem] theorem cl_agg {d l} : clearWith (.c .agg l) d σ = demL d 0 l σ := rfl
@[go_sem] theorem cl_tup {d s l} : clearWith (.c (.tup s) l) d σ = demL d 0 l σ := rfl
@[go_sem] theorem pair_beq {a b c d : Nat} : ((a, b) == (c, d)) = if a = c then (if b = d then true else false) else false := by
  by_cases h1 : a = c <;> by_cases h2 : b = d <;> simp [h1, h2]
@[go_sem ↓] theorem give_tmp' {d x : Nat} : giveSt d (.assign (.tmp x)) σ = giveOf d x (σ.getD x .undef) σ := rfl
@[go_sem ↓] theorem give_const {d : Nat} {v : Value} : giveSt d (.assign (.const v)) σ = σ := rfl
@[go_sem ↓] theorem give_func {d : Nat} {f : FuncId} : giveSt d (.assign (.func f)) σ = σ := rfl
@[go_sem] theorem gv_undef {d x : Nat} : giveOf d x .undef σ = σ := rfl
@[go_sem] theorem gv_skip {d x : Nat} : giveOf d x skipSV σ = σ := rfl
@[go_sem] theorem gv_bp {d x s o : Nat} : giveOf d x (.bp s o) σ = σ := rfl
@[go_sem] theorem gv_ep {d x s o q kd fl es i f row} : giveOf d x (.ep s o q kd fl es i f row) σ = σ := rfl
@[go_sem] theorem gv_sp {d x fl row f} : giveOf d x (.sp fl row f) σ = σ := rfl
@[go_sem] theorem gv_fn {d x g caps} : giveOf d x (.fn g caps) σ = σ := rfl
@[go_sem] theorem gv_box {d x l} : giveOf d x (.c .box l) σ = σ := rfl
@[go_sem] theorem gv_agg {d x l} : giveOf d x (.c .agg l) σ = σ := rfl
@[go_sem] theorem gv_tup {d x s l} : giveOf d x (.c (.tup s) l) σ = σ := rfl
@[go_sem] theorem gv_sh {d x f p} : giveOf d x (.c .one [.sh f p]) σ = σ := rfl
@[go_sem] theorem gv_ow {d x f es rows} : giveOf d x (.c .one [.ow f es rows]) σ = σ := rfl
@[go_sem] theorem gv_dead {d x} : giveOf d x (.c .one [.dead]) σ = σ := rfl
@[go_sem] theorem gv_br {d x s o q kd lo f es rows} : giveOf d x (.c .one [.br s o q kd lo f es rows]) σ = if kd = 1 ∧ o = 0 ∧ q = [] ∧ s = d ∧ (cellAt σ d 0).isOw = true then (off d 0 σ).set x (.c .one [.ow f es rows]) else σ := by
  unfold giveOf
  split
  · rename_i h
    injection h with _ h
    injection h with h _
    injection h with h1 h2 h3 h4 h5 h6 h7 h8
    subst h1; subst h2; subst h3; subst h4; subst h5; subst h6; subst h7; subst h8
    simp
  · rename_i h
    rw [if_neg]
    rintro ⟨rfl, rfl, rfl, _, _⟩
    exact h _ _ _ _ _ rfl
@[go_sem] theorem demL_nil {d j} : demL d j [] σ = σ := rfl
@[go_sem] theorem demL_sh {d j f p l} : demL d j (.sh f p :: l) σ = demL d (j + 1) l σ := rfl
@[go_sem] theorem demL_br {d j s o q kd lo f es rows l} : demL d j (.br s o q kd lo f es rows :: l) σ = demL d (j + 1) l σ := rfl
@[go_sem] theorem demL_dead {d j l} : demL d j (.dead :: l) σ = demL d (j + 1) l σ := rfl
@[go_sem] theorem demL_ow {d j f es rows l} : demL d j (.ow f es rows :: l) σ = demL d (j + 1) l (demote d j σ) := rfl
@[go_sem] theorem demoteAll_zero {s j} : demoteAll s j 0 σ = σ := rfl
@[go_sem] theorem demoteAll_succ {s j n} : demoteAll s j (n + 1) σ = demoteAll s (j + 1) n (if (cellAt σ s j).isOw then demote s j σ else σ) := rfl
/-- A slot's cell. -/
def cellOf (x : SV) (o : Nat) : CV :=
  match x with
  | .c _ l => l.getD o .dead
  | _ => .dead
@[go_sem] theorem cellAt_nil {s o} : cellAt [] s o = .dead := rfl
@[go_sem] theorem cellAt_zero {x o} : cellAt (x :: σ) 0 o = cellOf x o := rfl
@[go_sem] theorem cellAt_succ {x s o} : cellAt (x :: σ) (s + 1) o = cellAt σ s o := rfl
@[go_sem] theorem cellOf_c {sh l o} : cellOf (.c sh l) o = l.getD o .dead := rfl
@[go_sem] theorem cellOf_undef {o} : cellOf .undef o = .dead := rfl
@[go_sem] theorem cellOf_skip {o} : cellOf skipSV o = .dead := rfl
@[go_sem] theorem cellOf_bp {s a o} : cellOf (.bp s a) o = .dead := rfl
@[go_sem] theorem cellOf_ep {s a q kd fl es i f row o} : cellOf (.ep s a q kd fl es i f row) o = .dead := rfl
@[go_sem] theorem cellOf_sp {fl row f o} : cellOf (.sp fl row f) o = .dead := rfl
@[go_sem] theorem cellOf_fn {g caps o} : cellOf (.fn g caps) o = .dead := rfl
@[go_sem] theorem atP_eq {s o q} : atP σ s o q = (cellAt σ s o).atQ q := rfl
@[go_sem] theorem atQ_ow {f es rows q} : (CV.ow f es rows).atQ q = (getP q (.o es rows)).map fun r => (f, r) := rfl
@[go_sem] theorem getP_nil {es rows} : getP [] (.o es rows) = some (es, rows) := rfl
@[go_sem] theorem getP_cons {es rows i j q} : getP ((i, j) :: q) (.o es rows) = (rows[i]?).bind fun row => (row[j]?).bind fun p => getP q p := rfl
@[go_sem] theorem strip_nil {q} : strip [] q = some q := rfl
@[go_sem] theorem strip_cons {a p b q} : strip (a :: p) (b :: q) = if a = b then strip p q else none := rfl
@[go_sem] theorem strip_end {a p} : strip (a :: p) [] = none := rfl
@[go_sem] theorem modP_nil {g p} : modP g [] p = g p := by cases p <;> rfl
@[go_sem] theorem modP_cons {g i j q es rows} : modP g ((i, j) :: q) (.o es rows) = match rows[i]? with
    | some row => match row[j]? with
      | some p => .o es (rows.set i (row.set j (modP g q p)))
      | none => .o es rows
    | none => .o es rows := rfl
@[go_sem] theorem setRows_o {es0 new es rows} : setRows es0 new (.o es rows) = if es = es0 ∧ rows.length = new.length then .o es new else .un := rfl
@[go_sem] theorem toX_eq {p} : toX p = .un := rfl
@[go_sem] theorem owBy_o {f es rows} : owBy f (.o es rows) = .ow f es rows := rfl
@[go_sem] theorem owBy_un {f} : owBy f .un = .dead := rfl
@[go_sem] theorem brBy_o {s o q f es rows} : brBy s o q f (.o es rows) = .br s o q 0 0 f es rows := rfl
@[go_sem] theorem brBy_un {s o q f} : brBy s o q f .un = .dead := rfl
@[go_sem] theorem modC_sh {s o q g f' k j f p} : modC s o q g f' k j (.sh f p) = .sh f p := rfl
@[go_sem] theorem modC_dead' {s o q g f' k j} : modC s o q g f' k j .dead = .dead := rfl
@[go_sem] theorem modC_ow' {s o q g f' k j f es rows} : modC s o q g f' k j (.ow f es rows) = if k = s ∧ j = o then owBy (f || f') (modP g q (.o es rows)) else .ow f es rows := rfl
@[go_sem] theorem modC_br {s o q g f' k j a b q' kd lo f es rows} : modC s o q g f' k j (.br a b q' kd lo f es rows) = modL s o q g f' (.br a b q' kd lo f es rows) := rfl
@[go_sem] theorem modL_sh {s o q g f' f p} : modL s o q g f' (.sh f p) = .sh f p := rfl
@[go_sem] theorem modL_ow {s o q g f' f es rows} : modL s o q g f' (.ow f es rows) = .ow f es rows := rfl
@[go_sem] theorem modL_dead {s o q g f'} : modL s o q g f' .dead = .dead := rfl
@[go_sem] theorem modL_br {s o q g f' a b q' kd lo f es rows} : modL s o q g f' (.br a b q' kd lo f es rows) = if a = s ∧ b = o then (if kd = 0 then (match strip q' q with
      | some r => brBy a b q' (f || f') (modP g r (.o es rows))
      | none => .dead) else .dead) else .br a b q' kd lo f es rows := rfl
@[go_sem] theorem mvpC_sh {s o q s' o' q' k j f p} : mvpC s o q s' o' q' k j (.sh f p) = .sh f p := rfl
@[go_sem] theorem mvpC_dead' {s o q s' o' q' k j} : mvpC s o q s' o' q' k j .dead = .dead := rfl
@[go_sem] theorem mvpC_ow' {s o q s' o' q' k j f es rows} : mvpC s o q s' o' q' k j (.ow f es rows) = if k = s ∧ j = o then (match q with
      | [] => .br s' o' q' 0 0 f es rows
      | _ :: _ => owBy f (modP toX q (.o es rows))) else .ow f es rows := rfl
@[go_sem] theorem mvpC_br {s o q s' o' q' k j a b p kd lo f es rows} : mvpC s o q s' o' q' k j (.br a b p kd lo f es rows) = mvpL s o q s' o' q' (.br a b p kd lo f es rows) := rfl
@[go_sem] theorem mvpL_sh {s o q s' o' q' f p} : mvpL s o q s' o' q' (.sh f p) = .sh f p := rfl
@[go_sem] theorem mvpL_ow {s o q s' o' q' f es rows} : mvpL s o q s' o' q' (.ow f es rows) = .ow f es rows := rfl
@[go_sem] theorem mvpL_dead {s o q s' o' q'} : mvpL s o q s' o' q' .dead = .dead := rfl
@[go_sem] theorem mvpL_br {s o q s' o' q' a b p kd lo f es rows} : mvpL s o q s' o' q' (.br a b p kd lo f es rows) = if a = s ∧ b = o then (match strip q p with
      | some r => .br s' o' (q' ++ r) kd lo f es rows
      | none => if kd = 0 then (match strip p q with
        | some r => brBy a b p f (modP toX r (.o es rows))
        | none => .dead) else .dead) else .br a b p kd lo f es rows := rfl
@[go_sem] theorem keeps_none {s s'} : keeps none s s' = false := rfl
@[go_sem] theorem keeps_some {N s s'} : keeps (some N) s s' = (decide (N ≤ s) && decide (s' < N)) := rfl
@[go_sem] theorem kpOf_eq {T : Tys} {N} : kpOf T N = if T.mo then some N else none := rfl
@[go_sem] theorem keptOk_sh {f p} : keptOk σ (.sh f p) = true := rfl
@[go_sem] theorem keptOk_ow {f es rows} : keptOk σ (.ow f es rows) = true := rfl
@[go_sem] theorem keptOk_br {s o q kd lo f es rows} : keptOk σ (.br s o q kd lo f es rows) = (cellAt σ s o).isOw := rfl
@[go_sem] theorem leaveC_sh {mo inl N d j f p} : leaveC mo inl N d j (.sh f p) σ = (persist none d j (.sh f p) σ).map fun r => (r.1, id, r.2) := rfl
@[go_sem] theorem leaveC_ow {mo inl N d j f es rows} : leaveC mo inl N d j (.ow f es rows) σ = (persist none d j (.ow f es rows) σ).map fun r => (r.1, id, r.2) := rfl
@[go_sem] theorem leaveC_dead {mo inl N d j} : leaveC mo inl N d j .dead σ = none := rfl
@[go_sem] theorem leaveC_br {mo inl N d j s o q kd lo f es rows} : leaveC mo inl N d j (.br s o q kd lo f es rows) σ = 
    if (inl && decide (N ≤ s)) = true then (if (cellAt σ s o).isOw then some (σ, id, .br s o q kd lo f es rows) else none)
    else match q with
      | [] => (persist none d j (weaken N (.br s o [] kd lo f es rows)) σ).map fun r => (r.1, id, r.2)
      | a :: q => if (cellAt σ s o).isOw then
          (if (mo && kd == 0) = true then some (mvp s o (a :: q) d j [] σ, mvpL s o (a :: q) d j [], .ow f es rows) else some (demote s o σ, id, .sh f (.s es (erRows rows)))) else none := rfl
@[go_sem] theorem flatCell_sh {f p} : flatCell (.sh f p) = p.flat := rfl
@[go_sem] theorem flatCell_ow {f es rows} : flatCell (.ow f es rows) = false := rfl
@[go_sem] theorem flatCell_br {s o q kd lo f es rows} : flatCell (.br s o q kd lo f es rows) = false := rfl
@[go_sem] theorem flatCell_dead : flatCell .dead = false := rfl
@[go_sem] theorem flat_i {k n} : (PV.i k n).flat = true := rfl
@[go_sem] theorem flat_b {x} : (PV.b x).flat = true := rfl
@[go_sem] theorem flat_t {s} : (PV.t s).flat = true := rfl
@[go_sem] theorem flat_s {es rows} : (PV.s es rows).flat = true := rfl
@[go_sem] theorem flat_o {es rows} : (PV.o es rows).flat = false := rfl
@[go_sem] theorem flat_un : PV.un.flat = false := rfl
@[go_sem] theorem zo_i {k n} : (PV.i k n).zo = .i k n := rfl
@[go_sem] theorem zo_b {x} : (PV.b x).zo = .b x := rfl
@[go_sem] theorem zo_t {s} : (PV.t s).zo = .t s := rfl
@[go_sem] theorem zo_s {es} : (PV.s es []).zo = .o es [] := rfl
@[go_sem] theorem cell_i {s o q fl i j k n} : (PV.i k n).cell s o q fl i j = .sh false (.i k n) := rfl
@[go_sem] theorem cell_b {s o q fl i j x} : (PV.b x).cell s o q fl i j = .sh false (.b x) := rfl
@[go_sem] theorem cell_t {s o q fl i j x} : (PV.t x).cell s o q fl i j = .sh false (.t x) := rfl
@[go_sem] theorem cell_s {s o q fl i j es rows} : (PV.s es rows).cell s o q fl i j = .sh fl (.s es rows) := by cases fl <;> rfl
@[go_sem] theorem cell_o {s o q fl i j es rows} : (PV.o es rows).cell s o q fl i j = .br s o (q ++ [(i, j)]) 0 0 fl es rows := rfl
@[go_sem] theorem cell_un {s o q fl i j} : PV.un.cell s o q fl i j = .dead := rfl
@[go_sem] theorem cellS_i {fl k n} : (PV.i k n).cellS fl = .sh false (.i k n) := rfl
@[go_sem] theorem cellS_b {fl x} : (PV.b x).cellS fl = .sh false (.b x) := rfl
@[go_sem] theorem cellS_t {fl x} : (PV.t x).cellS fl = .sh false (.t x) := rfl
@[go_sem] theorem cellS_s {fl es rows} : (PV.s es rows).cellS fl = .sh fl (.s es rows) := by cases fl <;> rfl
@[go_sem] theorem cellS_o {fl es rows} : (PV.o es rows).cellS fl = .dead := rfl
@[go_sem] theorem rowCells_nil {s o q fl i j} : rowCells s o q fl i j [] = [] := rfl
@[go_sem] theorem rowCells_cons {s o q fl i j p l} : rowCells s o q fl i j (p :: l) = p.cell s o q fl i j :: rowCells s o q fl i (j + 1) l := rfl
@[go_sem] theorem er_i {k n} : (PV.i k n).er = .i k n := rfl
@[go_sem] theorem er_b {x} : (PV.b x).er = .b x := rfl
@[go_sem] theorem er_t {s} : (PV.t s).er = .t s := rfl
@[go_sem] theorem er_s {es rows} : (PV.s es rows).er = .s es rows := rfl
@[go_sem] theorem er_o {es rows} : (PV.o es rows).er = .s es (erRows rows) := rfl
@[go_sem] theorem erRow_nil' : erRow [] = [] := rfl
@[go_sem] theorem erRow_cons' {p l} : erRow (p :: l) = p.er :: erRow l := rfl
@[go_sem] theorem erRows_nil' : erRows [] = [] := rfl
@[go_sem] theorem erRows_cons' {r l} : erRows (r :: l) = erRow r :: erRows l := rfl
theorem erRows_eq : ∀ {l : List (List PV)}, erRows l = l.map erRow
  | [] => rfl
  | r :: l => by rw [erRows_cons', erRows_eq]; rfl
@[go_sem] theorem erRows_len {l : List (List PV)} : (erRows l).length = l.length := erRows_length l
@[go_sem] theorem erRows_append {a b : List (List PV)} : erRows (a ++ b) = erRows a ++ erRows b := by simp [erRows_eq]
@[go_sem] theorem erRows_take {a : List (List PV)} {n : Nat} : erRows (a.take n) = (erRows a).take n := by simp [erRows_eq]
@[go_sem] theorem erRows_drop {a : List (List PV)} {n : Nat} : erRows (a.drop n) = (erRows a).drop n := by simp [erRows_eq]
@[go_sem] theorem erRows_set {a : List (List PV)} {n : Nat} {r : List PV} : erRows (a.set n r) = (erRows a).set n (erRow r) := by simp [erRows_eq]
@[go_sem] theorem erRows_rep {n : Nat} {r : List PV} : erRows (List.replicate n r) = List.replicate n (erRow r) := by simp [erRows_eq]
theorem erRows_map {α : Type} {l : List α} {f : α → List PV} : erRows (l.map f) = l.map fun x => erRow (f x) := by simp [erRows_eq]
/-- Rows of this form have no slice of their own. -/
class FlatF {α : Type} (f : α → List PV) : Prop where
  er : ∀ x, erRow (f x) = f x
  flat : ∀ x, flatRow (f x) = true
theorem FlatF.mk' {α : Type} {f : α → List PV} (h : ∀ x, flatRow (f x) = true) : FlatF f := ⟨fun x => erRow_flat (h x), h⟩
@[go_sem] theorem erRows_map' {α : Type} {l : List α} {f : α → List PV} [FlatF f] : erRows (l.map f) = l.map f := by
  rw [erRows_map]; simp only [FlatF.er]
@[go_sem] theorem erRows_text {s : ByteArray} : erRows (rowsOf s) = rowsOf s := by
  unfold rowsOf; rw [erRows_map]; rfl
theorem flatRow_eq {l : List PV} : flatRow l = l.all PV.flat := rfl
@[go_sem] theorem flatRow_nil : flatRow [] = true := rfl
@[go_sem] theorem flatRow_cons {p l} : flatRow (p :: l) = (p.flat && flatRow l) := rfl
@[go_sem] theorem flatRows_nil : flatRows [] = true := rfl
@[go_sem] theorem flatRows_cons {r l} : flatRows (r :: l) = (flatRow r && flatRows l) := rfl
@[go_sem] theorem flatRows_append {a b : List (List PV)} : flatRows (a ++ b) = (flatRows a && flatRows b) := by simp [flatRows]
theorem flatRows_map {α : Type} {l : List α} {f : α → List PV} (h : ∀ x, flatRow (f x) = true) : flatRows (l.map f) = true := by
  simp [flatRows, h]
@[go_sem] theorem flatRows_map' {α : Type} {l : List α} {f : α → List PV} [h : FlatF f] : flatRows (l.map f) = true := flatRows_map h.flat
@[go_sem] theorem flatRows_rep {n : Nat} {r : List PV} (h : flatRow r = true) : flatRows (List.replicate n r) = true := by simp [flatRows, h]
@[go_sem] theorem flatRows_text {s : ByteArray} : flatRows (rowsOf s) = true := by
  unfold rowsOf; exact flatRows_map fun x => rfl
@[go_sem] theorem flatRows_take {a : List (List PV)} {n : Nat} (h : flatRows a = true) : flatRows (a.take n) = true := by
  simp only [flatRows, List.all_eq_true] at h ⊢; exact fun x hx => h x (List.mem_of_mem_take hx)
@[go_sem] theorem flatRows_drop {a : List (List PV)} {n : Nat} (h : flatRows a = true) : flatRows (a.drop n) = true := by
  simp only [flatRows, List.all_eq_true] at h ⊢; exact fun x hx => h x (List.mem_of_mem_drop hx)
@[go_sem] theorem flatRows_set {a : List (List PV)} {n : Nat} {r : List PV} (h : flatRows a = true) (h2 : flatRow r = true) : flatRows (a.set n r) = true := by
  simp only [flatRows, List.all_eq_true] at h ⊢
  intro x hx
  rcases List.mem_or_eq_of_mem_set hx with hx | rfl
  · exact h x hx
  · exact h2
/-- Rows of this form have no slice at all. -/
class ScalF {α : Type} (f : α → List PV) : Prop where
  sc : ∀ x, (f x).all PV.scalar = true
@[go_sem] theorem plain_nil : plainRows [] = true := rfl
@[go_sem] theorem plain_cons {r l} : plainRows (r :: l) = (r.all PV.scalar && plainRows l) := rfl
@[go_sem] theorem plain_app {a b : List (List PV)} : plainRows (a ++ b) = (plainRows a && plainRows b) := by simp [plainRows]
@[go_sem] theorem plain_map {α : Type} {l : List α} {f : α → List PV} [h : ScalF f] : plainRows (l.map f) = true := by simp [plainRows, h.sc]
@[go_sem] theorem plain_text {s : ByteArray} : plainRows (rowsOf s) = true := by
  unfold plainRows rowsOf; rw [List.all_map]; exact List.all_eq_true.2 fun x _ => rfl
@[go_sem] theorem plain_take {a : List (List PV)} {n : Nat} (h : plainRows a = true) : plainRows (a.take n) = true := by
  simp only [plainRows, List.all_eq_true] at h ⊢; exact fun x hx => h x (List.mem_of_mem_take hx)
@[go_sem] theorem plain_drop {a : List (List PV)} {n : Nat} (h : plainRows a = true) : plainRows (a.drop n) = true := by
  simp only [plainRows, List.all_eq_true] at h ⊢; exact fun x hx => h x (List.mem_of_mem_drop hx)
@[go_sem] theorem plain_rep {n : Nat} {r : List PV} (h : r.all PV.scalar = true) : plainRows (List.replicate n r) = true := by
  simp only [plainRows, List.all_eq_true] at h ⊢
  intro x hx
  rw [List.eq_of_mem_replicate hx]; exact h
attribute [go_sem] keepFl
@[go_sem] theorem set_get {α : Type} {l : List α} {i : Nat} {a : α} : (l.set i a)[i]? = (l[i]?).map fun _ => a := by
  rw [List.getElem?_set_self']; rfl
attribute [go_sem] List.set_set implies_true or_false or_true false_or true_or
@[go_sem] theorem pair_eq {a b c d : Nat} : ((a, b) = (c, d)) = (a = c ∧ b = d) := by simp
@[go_sem] theorem cons_nil {α : Type} {a : α} {l : List α} : (a :: l = []) = False := by simp
@[go_sem] theorem nil_nil {α : Type} : (([] : List α) = []) = True := by simp
@[go_sem] theorem erun_sl {E : Env} {f c} : (E.run f c).T.sl = E.T.sl := rfl
@[go_sem] theorem erun_sz {E : Env} {f c} : (E.run f c).T.sz = E.T.sz := rfl
@[go_sem] theorem erun_byt {E : Env} {f c} : (E.run f c).T.byt = E.T.byt := rfl
@[go_sem] theorem erun_ag {E : Env} {f c} : (E.run f c).T.ag = E.T.ag := rfl
@[go_sem] theorem erun_zr {E : Env} {f c} : (E.run f c).T.zr = E.T.zr := rfl
@[go_sem] theorem erun_fo {E : Env} {f c} : (E.run f c).T.fo = E.T.fo := rfl
@[go_sem] theorem erun_fz {E : Env} {f c} : (E.run f c).T.fz = E.T.fz := rfl
@[go_sem] theorem erun_ik {E : Env} {f c} : (E.run f c).T.ik = E.T.ik := rfl
@[go_sem] theorem erun_str {E : Env} {f c} : (E.run f c).T.str = E.T.str := rfl
@[go_sem] theorem erun_boo {E : Env} {f c} : (E.run f c).T.boo = E.T.boo := rfl
@[go_sem] theorem erun_eqs {E : Env} {f c} : (E.run f c).T.eqs = E.T.eqs := rfl
@[go_sem] theorem erun_mo {E : Env} {f c} : (E.run f c).T.mo = E.mv f := rfl
@[go_sem] theorem erun_al {E : Env} {f c} : (E.run f c).T.al = E.al f := rfl
@[go_sem] theorem erun_so {E : Env} {f c g} : (E.run f c).T.so g = if E.inl g = true then some (c g) else E.T.so g := rfl
@[go_sem] theorem erun_D {E : Env} {f c} : (E.run f c).D = E.dead f := rfl
@[go_sem] theorem isOw_sh {f p} : (CV.sh f p).isOw = false := rfl
@[go_sem] theorem isOw_ow {f es rows} : (CV.ow f es rows).isOw = true := rfl
@[go_sem] theorem isOw_br {s o q kd lo f es rows} : (CV.br s o q kd lo f es rows).isOw = false := rfl
@[go_sem] theorem isOw_dead : CV.dead.isOw = false := rfl
attribute [go_sem] zeroSt demote move off turn modS mvp mapSt demC mvC offC epOff epTo persist persistAll nest nestM nestAll PV.cv PV.scalar storeEp blanks Tgt.next srcSt offO id_eq leaveAll
@[go_sem] theorem mapC_undef {g e} : SV.undef.mapC g e = .undef := rfl
@[go_sem] theorem mapC_c {g e sh l} : (SV.c sh l).mapC g e = .c sh (mapAll g 0 l) := rfl
@[go_sem] theorem mapC_bp {g e s o} : (SV.bp s o).mapC g e = .bp s o := rfl
@[go_sem] theorem mapC_sp {g e fl row f} : (SV.sp fl row f).mapC g e = .sp fl row f := rfl
@[go_sem] theorem mapC_fn {g e i caps} : (SV.fn i caps).mapC g e = .fn i caps := rfl
@[go_sem] theorem mapC_ep {g e s o q kd fl es i f row} : (SV.ep s o q kd fl es i f row).mapC g e = match e s o q with
    | some (s', o', q') => .ep s' o' q' kd fl es i f row
    | none => .undef := rfl
attribute [go_sem] asgSV cells? comp extSV lay layP part CV.isDead lendC lendAll ghostsOf isRes noBr CV.flag CV.reflag SV.cells SV.reflag back backC backEp
attribute [go_sem] fieldSV lenSV indexSV charSV sliceSV bound fillSV fillRows srcOf appendSt makeSV guardPt min2 max2 convSV slotOf tidy finish leaveRes resultSV resOf shapeOf weaken settles settle settleBox boxAt boxesAt putBoxes start shiftSV firstId storeSt callSt callIn nodupB
attribute [go_sem] List.getD_cons_zero List.getD_cons_succ List.getD_nil List.set_cons_zero List.set_cons_succ List.map_cons List.map_nil List.length_cons List.length_nil List.nil_append List.cons_append List.append_nil List.replicate_succ List.replicate_zero List.flatMap_cons List.flatMap_nil
attribute [go_sem] List.all_cons List.all_nil List.any_cons List.any_nil List.isEmpty_nil List.isEmpty_cons List.take_zero List.take_succ_cons List.drop_zero List.drop_succ_cons List.take_nil List.drop_nil List.contains_nil List.contains_cons List.range_zero
attribute [go_sem] Option.map_some Option.map_none Option.bind_some Option.bind_none Option.isSome_some Option.isSome_none Option.getD_some Option.getD_none
attribute [go_sem] Bool.or_false Bool.or_true Bool.false_or Bool.true_or Bool.and_false Bool.and_true Bool.false_and Bool.true_and Bool.not_true Bool.not_false Bool.not_not decide_eq_true_eq decide_eq_false_iff_not Bool.false_eq_true Bool.true_eq_false
attribute [go_sem] true_and and_true false_and and_false not_true_eq_false not_false_eq_true ended_normal ended_ret ended_exit List.toArray List.toList_toArray
attribute [go_sem] if_true if_false reduceIte ite_true ite_false eq_self ne_eq
theorem getElem?_arr {α : Type} {l : List α} {i : Nat} : (l.toArray)[i]? = l[i]? := by simp
attribute [go_sem] getElem?_arr List.getElem?_cons_zero List.getElem?_cons_succ List.getElem?_nil

section
variable {t : TypeId}
/-- A call that is not told by what it does to the slots. -/
def plainCall (E : Env) (call : CallF) (N : Nat) (ty : TypeId) (d : Nat) (σ : St) (g : FuncId) (xs : List Operand) : Option (St × SV) :=
  if ((xs.map (opd E.T N ty σ)).flatMap ghostsOf).isEmpty then (lendArgs 0 (xs.map (opd E.T N ty σ))).bind fun q => (call g q.1 []).bind fun r => retIn σ q r
      else callSt E call N ty d σ (.func g) xs
@[go_sem] theorem soSel_some {α β : Type} {h : α} {a : α → β} {b : β} : soSel (some h) a b = a h := rfl
@[go_sem] theorem soSel_none {α β : Type} {a : α → β} {b : β} : soSel none a b = b := rfl
@[go_sem ↓] theorem callAny_fn {E : Env} {call : CallF} {d : Nat} {g : FuncId} {xs : List Operand} : callAny E call N ty d σ (.func g) xs = soSel (E.T.so g) (fun h => h d σ (xs.map (opd E.T N ty σ))) (plainCall E call N ty d σ g xs) := rfl
@[go_sem ↓] theorem plainCall_q {E : Env} {call : CallF} {d : Nat} {g : FuncId} {xs : List Operand} {K : Kont (St × SV)} : @Wq _ (plainCall E call N ty d σ g xs) K = @Wq _ (some (xs.map (opd E.T N ty σ))) ⟨fun vs => @Bq ((vs.flatMap ghostsOf).isEmpty = true)
    ⟨@Wq _ (lendArgs 0 vs) ⟨fun q => @Wq _ (call g q.1 []) ⟨fun r => @Wq _ (retIn σ q r) K⟩⟩⟩ ⟨@Wq _ (callSt E call N ty d σ (.func g) xs) K⟩⟩ := by
  show Wp (plainCall E call N ty d σ g xs) K.run = Wp (some (xs.map (opd E.T N ty σ))) fun vs => Br ((vs.flatMap ghostsOf).isEmpty = true) (Wp (lendArgs 0 vs) fun q => Wp (call g q.1 []) fun r => Wp (retIn σ q r) K.run) (Wp (callSt E call N ty d σ (.func g) xs) K.run)
  rw [wp_some]
  simp only [plainCall, wp_ite, wp_bind]
@[go_sem ↓] theorem retIn_q {q : List SV × List (Nat × Nat) × Bool} {r : Ret} {K : Kont (St × SV)} : @Wq _ (retIn σ q r) K = @Bq (r.boxes.length = 0 ∧ isRes r.res = true ∧ r.res.cells.all noBr = true) ⟨@Wq _ (some (r.res.cells.any CV.flag)) ⟨fun fl => @Bq (fl = true) ⟨@Wq _ (some (back [] q.2.1 true σ, r.res.reflag q.2.2)) K⟩ ⟨@Wq _ (some (σ, r.res.reflag q.2.2)) K⟩⟩⟩ ⟨False⟩ := by
  show Wp (retIn σ q r) K.run = Br (r.boxes.length = 0 ∧ isRes r.res = true ∧ r.res.cells.all noBr = true) (Wp (some (r.res.cells.any CV.flag)) fun fl => Br (fl = true) (Wp (some (back [] q.2.1 true σ, r.res.reflag q.2.2)) K.run) (Wp (some (σ, r.res.reflag q.2.2)) K.run)) False
  simp only [retIn, wp_ite, wp_none, wp_some]
  cases r.res.cells.any CV.flag <;> simp [br_true, br_false]
@[go_sem] theorem lendArgs_nil {k} : lendArgs k [] = some ([], [], false) := rfl
@[go_sem] theorem lendArgs_one {k cs l} : lendArgs k (.c .one cs :: l) = (lendAll cs).bind fun r => (lendArgs k l).map fun q => (.c .one r.1 :: q.1, r.2.1 ++ q.2.1, r.2.2 || q.2.2) := rfl
@[go_sem] theorem lendArgs_agg {k cs l} : lendArgs k (.c .agg cs :: l) = (lendAll cs).bind fun r => (lendArgs k l).map fun q => (.c .agg r.1 :: q.1, r.2.1 ++ q.2.1, r.2.2 || q.2.2) := rfl
@[go_sem] theorem lendArgs_bp {k s l} : lendArgs k (.bp s 0 :: l) = (lendArgs (k + 1) l).map fun q => (.bp k 0 :: q.1, q.2) := rfl
@[go_sem] theorem lendArgs_fn {k g caps l} : lendArgs k (.fn g caps :: l) = (lendArgs (k + caps.length) l).map fun q => (.fn g (List.range' k caps.length) :: q.1, q.2) := rfl

/-- Cells as a loaded value. -/
def mkSV (a : Bool) (l : List CV) : SV := .c (if a then .agg else .one) l
@[go_sem] theorem mkSV_true {l} : mkSV true l = .c .agg l := rfl
@[go_sem] theorem mkSV_false {l} : mkSV false l = .c .one l := rfl
def loadBox (a : Bool) (n o s : Nat) (x : SV) : Option SV :=
  match x with
  | .c .box l => (part n o (mapAll (CV.view s) 0 l)).bind fun l => if a || !(l.any CV.isDead) then some (mkSV a l) else none
  | _ => none
@[go_sem] theorem loadBox_box {a n o s l} : loadBox a n o s (.c .box l) = (part n o (mapAll (CV.view s) 0 l)).bind fun l => if a || !(l.any CV.isDead) then some (mkSV a l) else none := rfl
def loadAt (a : Bool) (n : Nat) (σ : St) (x : SV) : Option SV :=
  match x with
  | .bp s o => loadBox a n o s (σ.getD s .undef)
  | .ep s o q kd fl es i f row => if f + n ≤ row.length then
      (if a || !((rowCells s o q fl i f ((row.drop f).take n)).any CV.isDead) then some (mkSV a (rowCells s o q fl i f ((row.drop f).take n))) else none) else none
  | .sp fl row f => if f + n ≤ row.length then
      (if a || !((((row.drop f).take n).map (PV.cellS fl)).any CV.isDead) then some (mkSV a (((row.drop f).take n).map (PV.cellS fl))) else none) else none
  | _ => none
@[go_sem] theorem loadAt_bp {a n s o} : loadAt a n σ (.bp s o) = loadBox a n o s (σ.getD s .undef) := rfl
@[go_sem] theorem loadAt_ep {a n s o q kd fl es i f row} : loadAt a n σ (.ep s o q kd fl es i f row) = if f + n ≤ row.length then
      (if a || !((rowCells s o q fl i f ((row.drop f).take n)).any CV.isDead) then some (mkSV a (rowCells s o q fl i f ((row.drop f).take n))) else none) else none := rfl
@[go_sem] theorem loadAt_sp {a n fl row f} : loadAt a n σ (.sp fl row f) = if f + n ≤ row.length then
      (if a || !((((row.drop f).take n).map (PV.cellS fl)).any CV.isDead) then some (mkSV a (((row.drop f).take n).map (PV.cellS fl))) else none) else none := rfl
@[go_sem ↓] theorem load_q {x : SV} : loadSV T σ t x = (T.sz t).bind fun n => (T.ag t).bind fun a => if a = false ∧ n ≠ 1 then none else loadAt a n σ x := by
  unfold loadSV; congr 1
end
end
end Go.Proofs.YtblelojdboefjaaDoor.R

/- Walking the evaluator: regions of drawn order. -/
set_option linter.unusedVariables false
set_option linter.unusedSimpArgs false
namespace Go.Proofs.YtblelojdboefjaaDoor.R
open Go

/-- A closed condition that the kernel shows. -/
def Chk [a : Later] : Prop := a.it
theorem chk {T : Tys} {ops : Array Oper} {P : Prop} (h : apartOk T ops = true) (h2 : P) : @Chk ⟨apartOk T ops = true⟩ ∧ P := ⟨h, h2⟩

/-- One operation of a region of drawn order. -/
def pureStep (E : Env) (call : CallF) (N : Nat) (ops : Array Oper) (o : Oper) (w : Bool) (σ : St) : Option St :=
  match o.dst with
  | none => none
  | some d => if d < N ∧ plain (σ.getD d .undef) = true then
      (if w then (drawOp E call N o σ).map (drawn E.T ops.toList d) else some skipSV).bind fun v => if (isBox v && !isAlloc o.op) = true then none else some (σ.set d v)
    else none
/-- The operations of a region of drawn order, from the one that is the first of the list on. -/
def runPL (E : Env) (call : CallF) (N : Nat) (ops : Array Oper) : List Oper → St → Option St
  | [], σ => some σ
  | o :: r, σ => if isTail E.T ops.toList o r then runL E call N ops (o :: r) σ else (wantedSt N ops o σ).bind fun w => (pureStep E call N ops o w σ).bind fun σ => runPL E call N ops r σ

/-- A first operation that turns nothing on, and those behind it. -/
def runPM (E : Env) (call : CallF) (N : Nat) (ops : Array Oper) (o : Oper) (r : List Oper) (σ : St) : Option St :=
  (wantedSt N ops o σ).bind fun w => (pureStep E call N ops o w σ).bind fun σ => runPL E call N ops r σ
section
variable {E : Env} {call : CallF} {N n : Nat} {σ : St} {K : Kont (Ex × St)} {L : Kont St} {d : Tmp} {ty : TypeId} {ps : String} {af : Array Edge} {gd : Option (Nat × Bool)}

theorem runPure_runPL {ops : Array Oper} : ∀ (r : List Oper) (k : Nat) (σ : St), ops.toList.drop k = r → ((runPure E call N ops (List.range' k (tailAt E.T ops.toList r)) σ).bind fun σ => runOps E call N ops (List.range' (k + tailAt E.T ops.toList r) (r.length - tailAt E.T ops.toList r)) σ) = runPL E call N ops r σ
  | [], k, σ, h => by simp [runPure, runPL, tailAt, runOps]
  | o :: r, k, σ, h => by
    have hk : ops.toList[k]? = some o := by
      have := congrArg (fun l => l[0]?) h
      simpa [List.getElem?_drop] using this
    have hd : ops.toList.drop (k + 1) = r := by
      have := congrArg List.tail h
      simpa [List.tail_drop] using this
    simp only [tailAt, runPL]
    by_cases ht : isTail E.T ops.toList o r = true
    · simp only [ht, if_true, List.range'_zero, runPure, Option.bind_some, Nat.add_zero, Nat.sub_zero]
      exact runOps_runL (o :: r) k σ h
    · have hr := fun σ => runPure_runPL r (k + 1) σ hd
      have e1 : k + (tailAt E.T ops.toList r + 1) = k + 1 + tailAt E.T ops.toList r := by omega
      have e2 : (o :: r).length - (tailAt E.T ops.toList r + 1) = r.length - tailAt E.T ops.toList r := by simp
      simp only [ht, Bool.false_eq_true, if_false, e1, e2, List.range'_succ, runPure]
      rw [show ops[k]? = some o by simpa using hk]
      simp only [Option.bind_assoc]
      congr 1; funext w
      unfold pureStep
      cases o.dst with
      | none => rfl
      | some d =>
        simp only
        split
        · cases (if w = true then (drawOp E call N o σ).map (drawn E.T ops.toList d) else some skipSV) with
          | none => rfl
          | some v =>
            simp only [Option.bind_some]
            split
            · rfl
            · simp only [Option.bind_some]; exact hr _
        · rfl

theorem qp_draw {id : Nat} {ops : Array Oper} (hal : E.T.al = false) : @Wq _ (runCode E call N n (.region id ops true) σ) K = (@Chk ⟨apartOk E.T ops = true⟩ ∧ @Wq _ (runPL E call N ops ops.toList σ) ⟨fun σ => K.run (.normal, σ)⟩) := by
  show Wp (runCode E call N n (.region id ops true) σ) K.run = (apartOk E.T ops = true ∧ Wp (runPL E call N ops ops.toList σ) fun σ => K.run (.normal, σ))
  simp only [runCode, if_true, hal, Bool.false_eq_true, if_false]
  have := runPure_runPL (E := E) (call := call) (N := N) ops.toList 0 σ rfl
  rw [Nat.zero_add] at this
  rw [List.range_eq_range', ← this, Array.length_toList]
  by_cases h : apartOk E.T ops = true
  · simp [h, wp_map]
  · simp [h]
/-- A drawn region that is run in every order. -/
theorem qp_all {id : Nat} {ops : Array Oper} (hal : E.T.al = true) : @Wq _ (runCode E call N n (.region id ops true) σ) K = @Wq _ (runAll E call N ops σ) ⟨fun σ => K.run (.normal, σ)⟩ := by
  show Wp (runCode E call N n (.region id ops true) σ) K.run = Wp (runAll E call N ops σ) fun σ => K.run (.normal, σ)
  simp only [runCode, if_true, hal, wp_map]
@[go_sem ↓] theorem qp_both {id : Nat} {ops : Array Oper} : @Wq _ (runCode E call N n (.region id ops true) σ) K = @Bq (E.T.al = true) ⟨@Wq _ (runAll E call N ops σ) ⟨fun σ => K.run (.normal, σ)⟩⟩ ⟨@Chk ⟨apartOk E.T ops = true⟩ ∧ @Wq _ (runPL E call N ops ops.toList σ) ⟨fun σ => K.run (.normal, σ)⟩⟩ := by
  show _ = Br (E.T.al = true) _ _
  by_cases h : E.T.al = true
  · rw [qp_all h]
    simp [h]
  · rw [qp_draw (by simpa using h)]
    simp [h]
theorem wq_all {ops : Array Oper} {o : List Nat} {os : List (List Nat)} (ho : orders ops ops.size [] = o :: os) (h : @Wq _ (runOps E call N ops o σ) ⟨fun s => @Wq _ (runSame E call N ops os s σ) L⟩) : @Wq _ (runAll E call N ops σ) L := by
  show Wp (runAll E call N ops σ) L.run
  unfold runAll
  rw [ho]
  simp only [wp_bind]
  exact h
@[go_sem] theorem wq_same_nil {ops : Array Oper} {s : St} : @Wq _ (runSame E call N ops [] s σ) L = @Wq _ (some s) L := rfl
@[go_sem] theorem wq_same_cons {ops : Array Oper} {o : List Nat} {os : List (List Nat)} {s : St} : @Wq _ (runSame E call N ops (o :: os) s σ) L = @Wq _ (runOps E call N ops o σ) ⟨fun s' => s' = s ∧ @Wq _ (runSame E call N ops os s σ) L⟩ := by
  show Wp (runSame E call N ops (o :: os) s σ) L.run = Wp (runOps E call N ops o σ) fun s' => s' = s ∧ Wp (runSame E call N ops os s σ) L.run
  simp only [runSame, wp_bind]
  congr 1; funext s'
  by_cases e : s' = s
  · simp [e]
  · simp [e]
@[go_sem] theorem wq_run_nil {ops : Array Oper} : @Wq _ (runOps E call N ops [] σ) L = @Wq _ (some σ) L := rfl
@[go_sem] theorem wq_run_cons {ops : Array Oper} {i : Nat} {r : List Nat} : @Wq _ (runOps E call N ops (i :: r) σ) L = @Wq _ (ops[i]?) ⟨fun o => @Wq _ (runL E call N ops [o] σ) ⟨fun σ => @Wq _ (runOps E call N ops r σ) L⟩⟩ := by
  show Wp (runOps E call N ops (i :: r) σ) L.run = Wp (ops[i]?) fun o => Wp (runL E call N ops [o] σ) fun σ => Wp (runOps E call N ops r σ) L.run
  cases h : ops[i]? with
  | none => simp only [runOps, h, wp_none]
  | some o => simp only [runOps, h, wp_some, runL, wp_bind]
@[go_sem ↓] theorem qp_pnil {ops : Array Oper} : @Wq _ (runPL E call N ops [] σ) L = @Wq _ (some σ) L := rfl
@[go_sem ↓] theorem qp_pcons {ops : Array Oper} {dd : Option Tmp} {op : Op} {gg : Option (Nat × Bool)} {r : List Oper} :
    @Wq _ (runPL E call N ops (⟨dd, op, ty, ps, af, gg⟩ :: r) σ) L = @Bq (isTail E.T ops.toList ⟨dd, op, ty, ps, af, gg⟩ r = true) ⟨@Wq _ (runL E call N ops (⟨dd, op, ty, ps, af, gg⟩ :: r) σ) L⟩ ⟨@Wq _ (runPM E call N ops ⟨dd, op, ty, ps, af, gg⟩ r σ) L⟩ := by
  show Wp (runPL E call N ops (⟨dd, op, ty, ps, af, gg⟩ :: r) σ) L.run = Br (isTail E.T ops.toList ⟨dd, op, ty, ps, af, gg⟩ r = true) (Wp (runL E call N ops (⟨dd, op, ty, ps, af, gg⟩ :: r) σ) L.run) (Wp (runPM E call N ops ⟨dd, op, ty, ps, af, gg⟩ r σ) L.run)
  simp only [runPL, wp_ite]
  rfl
@[go_sem ↓] theorem qp_pmid {ops : Array Oper} {op : Op} {r : List Oper} :
    @Wq _ (runPM E call N ops ⟨some d, op, ty, ps, af, none⟩ r σ) L = @Wq _ (some σ) ⟨fun σ => @Bq (d < N ∧ plain (σ.getD d .undef) = true) ⟨@Wq _ (drawOp E call N ⟨some d, op, ty, ps, af, none⟩ σ) ⟨fun v => @Wq _ (some (drawn E.T ops.toList d v)) ⟨fun v => @Bq ((isBox v && !isAlloc op) = true) ⟨False⟩ ⟨@Wq _ (some (σ.set d v)) ⟨fun σ => @Wq _ (runPL E call N ops r σ) L⟩⟩⟩⟩⟩ ⟨False⟩⟩ := by
  show Wp (runPM E call N ops ⟨some d, op, ty, ps, af, none⟩ r σ) L.run = Wp (some σ) fun σ => Br (d < N ∧ plain (σ.getD d .undef) = true) (Wp (drawOp E call N ⟨some d, op, ty, ps, af, none⟩ σ) fun v => Wp (some (drawn E.T ops.toList d v)) fun v => Br ((isBox v && !isAlloc op) = true) False (Wp (some (σ.set d v)) fun σ => Wp (runPL E call N ops r σ) L.run)) False
  simp only [runPM, wantedSt, Option.bind_some, wp_bind, wp_map, pureStep, wp_ite, wp_some, if_true, wp_none]
@[go_sem ↓] theorem qp_pmid_guard {ops : Array Oper} {j : Nat} {want : Bool} {op : Op} {r : List Oper} :
    @Wq _ (runPM E call N ops ⟨some d, op, ty, ps, af, some (j, want)⟩ r σ) L = @Wq _ (some σ) ⟨fun σ => @Wq _ ((ops[j]?).bind (·.dst)) ⟨fun t => @Bq (t < N ∧ d < N ∧ plain (σ.getD d .undef) = true) ⟨@Wq _ (gval (σ.getD t .undef)) ⟨fun b =>
      @Bq (b = some want) ⟨@Wq _ (drawOp E call N ⟨some d, op, ty, ps, af, some (j, want)⟩ σ) ⟨fun v => @Wq _ (some (drawn E.T ops.toList d v)) ⟨fun v => @Bq ((isBox v && !isAlloc op) = true) ⟨False⟩ ⟨@Wq _ (some (σ.set d v)) ⟨fun σ => @Wq _ (runPL E call N ops r σ) L⟩⟩⟩⟩⟩ ⟨@Wq _ (some (σ.set d skipSV)) ⟨fun σ => @Wq _ (runPL E call N ops r σ) L⟩⟩⟩⟩ ⟨False⟩⟩⟩ := by
  show Wp (runPM E call N ops ⟨some d, op, ty, ps, af, some (j, want)⟩ r σ) L.run = Wp (some σ) fun σ => Wp ((ops[j]?).bind (·.dst)) fun t => Br (t < N ∧ d < N ∧ plain (σ.getD d .undef) = true) (Wp (gval (σ.getD t .undef)) fun b =>
      Br (b = some want) (Wp (drawOp E call N ⟨some d, op, ty, ps, af, some (j, want)⟩ σ) fun v => Wp (some (drawn E.T ops.toList d v)) fun v => Br ((isBox v && !isAlloc op) = true) False (Wp (some (σ.set d v)) fun σ => Wp (runPL E call N ops r σ) L.run)) (Wp (some (σ.set d skipSV)) fun σ => Wp (runPL E call N ops r σ) L.run)) False
  simp only [runPM, wantedSt, wp_bind, wp_some, pureStep]
  generalize drawOp E call N ⟨some d, op, ty, ps, af, some (j, want)⟩ σ = po
  cases ops[j]? with
  | none => simp
  | some o =>
    simp only [wp_some]
    cases o.dst with
    | none => simp
    | some t =>
      simp only [wp_some]
      by_cases ht : t < N
      · by_cases hd : d < N ∧ plain (σ.getD d .undef) = true
        · have hb : (isBox skipSV && !isAlloc op) = false := rfl
          simp only [ht, hd.1, hd.2, and_self, if_true, wp_map, wp_bind, wp_ite, wp_some, wp_none, br_true, hb, Bool.false_eq_true, if_false]
          congr 1; funext b
          by_cases hw : b = some want
          · simp [hw]
          · simp [hw, hb]
        · have : (t < N ∧ d < N ∧ plain (σ.getD d .undef) = true) = False := by simp only [eq_iff_iff, iff_false]; exact fun h => hd h.2
          rw [this, br_false]
          simp only [ht, hd, if_true, if_false, wp_none, wp_map]
          simp [Wp]
      · simp [ht, Wp, Br]
@[go_sem ↓] theorem draw_alloc {t} : drawOp E call N ⟨some d, .alloc t, ty, ps, af, gd⟩ σ = (E.T.zr t).map fun z => .c .box (z.map (PV.cv false)) := rfl
@[go_sem] theorem isBox_box {l} : isBox (.c .box l) = true := rfl
@[go_sem] theorem isTail_move {x} {T : Tys} {os : List Oper} {dd : Option Tmp} {r : List Oper} : isTail T os ⟨dd, (.move x), ty, ps, af, gd⟩ r = false := rfl
@[go_sem] theorem headApp_move {x} {dd : Option Tmp} {r : List Oper} : headApp (⟨dd, (.move x), ty, ps, af, gd⟩ :: r) = false := rfl
@[go_sem] theorem isAlloc_move {x} : isAlloc (.move x) = false := rfl
@[go_sem ↓] theorem draw_move {x} : drawOp E call N ⟨some d, .move x, ty, ps, af, gd⟩ σ = pureOp E call N ⟨some d, .move x, ty, ps, af, gd⟩ σ := rfl
@[go_sem] theorem isTail_assign {x} {T : Tys} {os : List Oper} {dd : Option Tmp} {r : List Oper} : isTail T os ⟨dd, (.assign x), ty, ps, af, gd⟩ r = ((r.isEmpty || !scalarTy T ty && r.all isAsg) && decide (os.length ≤ af.size + 1 + r.length)) := rfl
@[go_sem] theorem size_mk {α : Type} {l : List α} : Array.size ⟨l⟩ = l.length := rfl
@[go_sem] theorem headApp_assign {x} {dd : Option Tmp} {r : List Oper} : headApp (⟨dd, (.assign x), ty, ps, af, gd⟩ :: r) = false := rfl
@[go_sem] theorem isAlloc_assign {x} : isAlloc (.assign x) = false := rfl
@[go_sem ↓] theorem draw_assign {x} : drawOp E call N ⟨some d, .assign x, ty, ps, af, gd⟩ σ = pureOp E call N ⟨some d, .assign x, ty, ps, af, gd⟩ σ := rfl
@[go_sem] theorem isTail_pick {c a b} {T : Tys} {os : List Oper} {dd : Option Tmp} {r : List Oper} : isTail T os ⟨dd, (.pick c a b), ty, ps, af, gd⟩ r = false := rfl
@[go_sem] theorem headApp_pick {c a b} {dd : Option Tmp} {r : List Oper} : headApp (⟨dd, (.pick c a b), ty, ps, af, gd⟩ :: r) = false := rfl
@[go_sem] theorem isAlloc_pick {c a b} : isAlloc (.pick c a b) = false := rfl
@[go_sem ↓] theorem draw_pick {c a b} : drawOp E call N ⟨some d, .pick c a b, ty, ps, af, gd⟩ σ = pureOp E call N ⟨some d, .pick c a b, ty, ps, af, gd⟩ σ := rfl
@[go_sem] theorem isTail_bin {op t x y u} {T : Tys} {os : List Oper} {dd : Option Tmp} {r : List Oper} : isTail T os ⟨dd, (.binOp op t x y u), ty, ps, af, gd⟩ r = false := rfl
@[go_sem] theorem headApp_bin {op t x y u} {dd : Option Tmp} {r : List Oper} : headApp (⟨dd, (.binOp op t x y u), ty, ps, af, gd⟩ :: r) = false := rfl
@[go_sem] theorem isAlloc_bin {op t x y u} : isAlloc (.binOp op t x y u) = false := rfl
@[go_sem ↓] theorem draw_bin {op t x y u} : drawOp E call N ⟨some d, .binOp op t x y u, ty, ps, af, gd⟩ σ = pureOp E call N ⟨some d, .binOp op t x y u, ty, ps, af, gd⟩ σ := rfl
@[go_sem] theorem isTail_un {op t x} {T : Tys} {os : List Oper} {dd : Option Tmp} {r : List Oper} : isTail T os ⟨dd, (.unOp op t x), ty, ps, af, gd⟩ r = false := rfl
@[go_sem] theorem headApp_un {op t x} {dd : Option Tmp} {r : List Oper} : headApp (⟨dd, (.unOp op t x), ty, ps, af, gd⟩ :: r) = false := rfl
@[go_sem] theorem isAlloc_un {op t x} : isAlloc (.unOp op t x) = false := rfl
@[go_sem ↓] theorem draw_un {op t x} : drawOp E call N ⟨some d, .unOp op t x, ty, ps, af, gd⟩ σ = pureOp E call N ⟨some d, .unOp op t x, ty, ps, af, gd⟩ σ := rfl
@[go_sem] theorem isTail_conv {s t x} {T : Tys} {os : List Oper} {dd : Option Tmp} {r : List Oper} : isTail T os ⟨dd, (.convert s t x), ty, ps, af, gd⟩ r = false := rfl
@[go_sem] theorem headApp_conv {s t x} {dd : Option Tmp} {r : List Oper} : headApp (⟨dd, (.convert s t x), ty, ps, af, gd⟩ :: r) = false := rfl
@[go_sem] theorem isAlloc_conv {s t x} : isAlloc (.convert s t x) = false := rfl
@[go_sem ↓] theorem draw_conv {s t x} : drawOp E call N ⟨some d, .convert s t x, ty, ps, af, gd⟩ σ = pureOp E call N ⟨some d, .convert s t x, ty, ps, af, gd⟩ σ := rfl
@[go_sem] theorem isTail_fieldAddr {t x f} {T : Tys} {os : List Oper} {dd : Option Tmp} {r : List Oper} : isTail T os ⟨dd, (.fieldAddr t x f), ty, ps, af, gd⟩ r = false := rfl
@[go_sem] theorem headApp_fieldAddr {t x f} {dd : Option Tmp} {r : List Oper} : headApp (⟨dd, (.fieldAddr t x f), ty, ps, af, gd⟩ :: r) = false := rfl
@[go_sem] theorem isAlloc_fieldAddr {t x f} : isAlloc (.fieldAddr t x f) = false := rfl
@[go_sem ↓] theorem draw_fieldAddr {t x f} : drawOp E call N ⟨some d, .fieldAddr t x f, ty, ps, af, gd⟩ σ = pureOp E call N ⟨some d, .fieldAddr t x f, ty, ps, af, gd⟩ σ := rfl
@[go_sem] theorem isTail_indexAddr {t x i} {T : Tys} {os : List Oper} {dd : Option Tmp} {r : List Oper} : isTail T os ⟨dd, (.indexAddr t x i), ty, ps, af, gd⟩ r = false := rfl
@[go_sem] theorem headApp_indexAddr {t x i} {dd : Option Tmp} {r : List Oper} : headApp (⟨dd, (.indexAddr t x i), ty, ps, af, gd⟩ :: r) = false := rfl
@[go_sem] theorem isAlloc_indexAddr {t x i} : isAlloc (.indexAddr t x i) = false := rfl
@[go_sem ↓] theorem draw_indexAddr {t x i} : drawOp E call N ⟨some d, .indexAddr t x i, ty, ps, af, gd⟩ σ = pureOp E call N ⟨some d, .indexAddr t x i, ty, ps, af, gd⟩ σ := rfl
@[go_sem] theorem isTail_index {t x i} {T : Tys} {os : List Oper} {dd : Option Tmp} {r : List Oper} : isTail T os ⟨dd, (.index t x i), ty, ps, af, gd⟩ r = false := rfl
@[go_sem] theorem headApp_index {t x i} {dd : Option Tmp} {r : List Oper} : headApp (⟨dd, (.index t x i), ty, ps, af, gd⟩ :: r) = false := rfl
@[go_sem] theorem isAlloc_index {t x i} : isAlloc (.index t x i) = false := rfl
@[go_sem ↓] theorem draw_index {t x i} : drawOp E call N ⟨some d, .index t x i, ty, ps, af, gd⟩ σ = pureOp E call N ⟨some d, .index t x i, ty, ps, af, gd⟩ σ := rfl
@[go_sem] theorem isTail_load {t x} {T : Tys} {os : List Oper} {dd : Option Tmp} {r : List Oper} : isTail T os ⟨dd, (.load t x), ty, ps, af, gd⟩ r = false := rfl
@[go_sem] theorem headApp_load {t x} {dd : Option Tmp} {r : List Oper} : headApp (⟨dd, (.load t x), ty, ps, af, gd⟩ :: r) = false := rfl
@[go_sem] theorem isAlloc_load {t x} : isAlloc (.load t x) = false := rfl
@[go_sem ↓] theorem draw_load {t x} : drawOp E call N ⟨some d, .load t x, ty, ps, af, gd⟩ σ = pureOp E call N ⟨some d, .load t x, ty, ps, af, gd⟩ σ := rfl
@[go_sem] theorem isTail_extract {x i} {T : Tys} {os : List Oper} {dd : Option Tmp} {r : List Oper} : isTail T os ⟨dd, (.extract x i), ty, ps, af, gd⟩ r = false := rfl
@[go_sem] theorem headApp_extract {x i} {dd : Option Tmp} {r : List Oper} : headApp (⟨dd, (.extract x i), ty, ps, af, gd⟩ :: r) = false := rfl
@[go_sem] theorem isAlloc_extract {x i} : isAlloc (.extract x i) = false := rfl
@[go_sem ↓] theorem draw_extract {x i} : drawOp E call N ⟨some d, .extract x i, ty, ps, af, gd⟩ σ = pureOp E call N ⟨some d, .extract x i, ty, ps, af, gd⟩ σ := rfl
@[go_sem] theorem isTail_slice {t x lo hi m} {T : Tys} {os : List Oper} {dd : Option Tmp} {r : List Oper} : isTail T os ⟨dd, (.slice t x lo hi m), ty, ps, af, gd⟩ r = false := rfl
@[go_sem] theorem headApp_slice {t x lo hi m} {dd : Option Tmp} {r : List Oper} : headApp (⟨dd, (.slice t x lo hi m), ty, ps, af, gd⟩ :: r) = false := rfl
@[go_sem] theorem isAlloc_slice {t x lo hi m} : isAlloc (.slice t x lo hi m) = false := rfl
@[go_sem ↓] theorem draw_slice {t x lo hi m} : drawOp E call N ⟨some d, .slice t x lo hi m, ty, ps, af, gd⟩ σ = pureOp E call N ⟨some d, .slice t x lo hi m, ty, ps, af, gd⟩ σ := rfl
@[go_sem] theorem isTail_nilCheck {x} {T : Tys} {os : List Oper} {dd : Option Tmp} {r : List Oper} : isTail T os ⟨dd, (.nilCheck x), ty, ps, af, gd⟩ r = false := rfl
@[go_sem] theorem headApp_nilCheck {x} {dd : Option Tmp} {r : List Oper} : headApp (⟨dd, (.nilCheck x), ty, ps, af, gd⟩ :: r) = false := rfl
@[go_sem] theorem isAlloc_nilCheck {x} : isAlloc (.nilCheck x) = false := rfl
@[go_sem ↓] theorem draw_nilCheck {x} : drawOp E call N ⟨some d, .nilCheck x, ty, ps, af, gd⟩ σ = pureOp E call N ⟨some d, .nilCheck x, ty, ps, af, gd⟩ σ := rfl
@[go_sem] theorem isTail_build {t p} {T : Tys} {os : List Oper} {dd : Option Tmp} {r : List Oper} : isTail T os ⟨dd, (.build t p), ty, ps, af, gd⟩ r = false := rfl
@[go_sem] theorem headApp_build {t p} {dd : Option Tmp} {r : List Oper} : headApp (⟨dd, (.build t p), ty, ps, af, gd⟩ :: r) = false := rfl
@[go_sem] theorem isAlloc_build {t p} : isAlloc (.build t p) = false := rfl
@[go_sem ↓] theorem draw_build {t p} : drawOp E call N ⟨some d, .build t p, ty, ps, af, gd⟩ σ = pureOp E call N ⟨some d, .build t p, ty, ps, af, gd⟩ σ := rfl
@[go_sem] theorem isTail_makeFunc {g a b} {T : Tys} {os : List Oper} {dd : Option Tmp} {r : List Oper} : isTail T os ⟨dd, (.makeFunc g a b), ty, ps, af, gd⟩ r = false := rfl
@[go_sem] theorem headApp_makeFunc {g a b} {dd : Option Tmp} {r : List Oper} : headApp (⟨dd, (.makeFunc g a b), ty, ps, af, gd⟩ :: r) = false := rfl
@[go_sem] theorem isAlloc_makeFunc {g a b} : isAlloc (.makeFunc g a b) = false := rfl
@[go_sem ↓] theorem draw_makeFunc {g a b} : drawOp E call N ⟨some d, .makeFunc g a b, ty, ps, af, gd⟩ σ = pureOp E call N ⟨some d, .makeFunc g a b, ty, ps, af, gd⟩ σ := rfl
@[go_sem] theorem isTail_makeSlice {t a b} {T : Tys} {os : List Oper} {dd : Option Tmp} {r : List Oper} : isTail T os ⟨dd, (.makeSlice t a b), ty, ps, af, gd⟩ r = false := rfl
@[go_sem] theorem headApp_makeSlice {t a b} {dd : Option Tmp} {r : List Oper} : headApp (⟨dd, (.makeSlice t a b), ty, ps, af, gd⟩ :: r) = false := rfl
@[go_sem] theorem isAlloc_makeSlice {t a b} : isAlloc (.makeSlice t a b) = false := rfl
@[go_sem ↓] theorem draw_makeSlice {t a b} : drawOp E call N ⟨some d, .makeSlice t a b, ty, ps, af, gd⟩ σ = pureOp E call N ⟨some d, .makeSlice t a b, ty, ps, af, gd⟩ σ := rfl
@[go_sem] theorem isAlloc_buildSlice {t a b} : isAlloc (.buildSlice t a b) = false := rfl
@[go_sem ↓] theorem draw_buildSlice {t a b} : drawOp E call N ⟨some d, .buildSlice t a b, ty, ps, af, gd⟩ σ = pureOp E call N ⟨some d, .buildSlice t a b, ty, ps, af, gd⟩ σ := rfl
@[go_sem] theorem isTail_len {a b} {T : Tys} {os : List Oper} {dd : Option Tmp} {r : List Oper} : isTail T os ⟨dd, (.call ⟨.builtin .len, a, b⟩), ty, ps, af, gd⟩ r = false := rfl
@[go_sem] theorem headApp_len {a b} {dd : Option Tmp} {r : List Oper} : headApp (⟨dd, (.call ⟨.builtin .len, a, b⟩), ty, ps, af, gd⟩ :: r) = false := rfl
@[go_sem] theorem isAlloc_len {a b} : isAlloc (.call ⟨.builtin .len, a, b⟩) = false := rfl
@[go_sem ↓] theorem draw_len {a b} : drawOp E call N ⟨some d, .call ⟨.builtin .len, a, b⟩, ty, ps, af, gd⟩ σ = pureOp E call N ⟨some d, .call ⟨.builtin .len, a, b⟩, ty, ps, af, gd⟩ σ := rfl
@[go_sem] theorem isTail_min {a b} {T : Tys} {os : List Oper} {dd : Option Tmp} {r : List Oper} : isTail T os ⟨dd, (.call ⟨.builtin .min, a, b⟩), ty, ps, af, gd⟩ r = false := rfl
@[go_sem] theorem headApp_min {a b} {dd : Option Tmp} {r : List Oper} : headApp (⟨dd, (.call ⟨.builtin .min, a, b⟩), ty, ps, af, gd⟩ :: r) = false := rfl
@[go_sem] theorem isAlloc_min {a b} : isAlloc (.call ⟨.builtin .min, a, b⟩) = false := rfl
@[go_sem ↓] theorem draw_min {a b} : drawOp E call N ⟨some d, .call ⟨.builtin .min, a, b⟩, ty, ps, af, gd⟩ σ = pureOp E call N ⟨some d, .call ⟨.builtin .min, a, b⟩, ty, ps, af, gd⟩ σ := rfl
@[go_sem] theorem isTail_max {a b} {T : Tys} {os : List Oper} {dd : Option Tmp} {r : List Oper} : isTail T os ⟨dd, (.call ⟨.builtin .max, a, b⟩), ty, ps, af, gd⟩ r = false := rfl
@[go_sem] theorem headApp_max {a b} {dd : Option Tmp} {r : List Oper} : headApp (⟨dd, (.call ⟨.builtin .max, a, b⟩), ty, ps, af, gd⟩ :: r) = false := rfl
@[go_sem] theorem isAlloc_max {a b} : isAlloc (.call ⟨.builtin .max, a, b⟩) = false := rfl
@[go_sem ↓] theorem draw_max {a b} : drawOp E call N ⟨some d, .call ⟨.builtin .max, a, b⟩, ty, ps, af, gd⟩ σ = pureOp E call N ⟨some d, .call ⟨.builtin .max, a, b⟩, ty, ps, af, gd⟩ σ := rfl
@[go_sem] theorem isTail_value {f a b} {T : Tys} {os : List Oper} {dd : Option Tmp} {r : List Oper} : isTail T os ⟨dd, (.call ⟨.value f, a, b⟩), ty, ps, af, gd⟩ r = if ty = 0 then true else false := rfl
@[go_sem] theorem headApp_value {f a b} {dd : Option Tmp} {r : List Oper} : headApp (⟨dd, (.call ⟨.value f, a, b⟩), ty, ps, af, gd⟩ :: r) = false := rfl
@[go_sem] theorem isAlloc_value {f a b} : isAlloc (.call ⟨.value f, a, b⟩) = false := rfl
@[go_sem ↓] theorem draw_value {f a b} : drawOp E call N ⟨some d, .call ⟨.value f, a, b⟩, ty, ps, af, gd⟩ σ = pureOp E call N ⟨some d, .call ⟨.value f, a, b⟩, ty, ps, af, gd⟩ σ := rfl
@[go_sem] theorem isTail_box {t x} {T : Tys} {os : List Oper} {dd : Option Tmp} {r : List Oper} : isTail T os ⟨dd, (.box t x), ty, ps, af, gd⟩ r = false := rfl
@[go_sem] theorem headApp_box {t x} {dd : Option Tmp} {r : List Oper} : headApp (⟨dd, (.box t x), ty, ps, af, gd⟩ :: r) = false := rfl
@[go_sem] theorem isAlloc_box {t x} : isAlloc (.box t x) = false := rfl
@[go_sem ↓] theorem draw_box {t x} : drawOp E call N ⟨some d, .box t x, ty, ps, af, gd⟩ σ = pureOp E call N ⟨some d, .box t x, ty, ps, af, gd⟩ σ := rfl
@[go_sem] theorem isTail_alloc {t} {T : Tys} {os : List Oper} {dd : Option Tmp} {r : List Oper} : isTail T os ⟨dd, (.alloc t), ty, ps, af, gd⟩ r = false := rfl
@[go_sem] theorem headApp_alloc {t} {dd : Option Tmp} {r : List Oper} : headApp (⟨dd, (.alloc t), ty, ps, af, gd⟩ :: r) = false := rfl
@[go_sem] theorem isAlloc_alloc {t} : isAlloc (.alloc t) = true := rfl
@[go_sem] theorem isTail_append {a b} {T : Tys} {os : List Oper} {dd : Option Tmp} {r : List Oper} : isTail T os ⟨dd, (.call ⟨.builtin .append, a, b⟩), ty, ps, af, gd⟩ r = true := rfl
@[go_sem] theorem headApp_append {a b} {dd : Option Tmp} {r : List Oper} : headApp (⟨dd, (.call ⟨.builtin .append, a, b⟩), ty, ps, af, gd⟩ :: r) = true := rfl
@[go_sem] theorem isTail_buildSlice {t a b} {T : Tys} {os : List Oper} {dd : Option Tmp} {r : List Oper} : isTail T os ⟨dd, (.buildSlice t a b), ty, ps, af, gd⟩ r = (headApp r && !flatParts T os b.toList) := rfl
attribute [go_sem] isAsg flatParts scalarAt scalarTy flatTy feeds eraseSV
@[go_sem] theorem isTmp_tmp {d t : Nat} : isTmp d (.tmp t) = decide (t = d) := rfl
@[go_sem] theorem isTmp_const {d : Nat} {v : Value} : isTmp d (.const v) = false := rfl
@[go_sem] theorem isTmp_func {d : Nat} {v : FuncId} : isTmp d (.func v) = false := rfl
@[go_sem] theorem drawn_undef {T os d} : drawn T os d .undef = .undef := by unfold drawn; split <;> rfl
@[go_sem] theorem drawn_skip {T os d} : drawn T os d skipSV = skipSV := by unfold drawn; split <;> rfl
@[go_sem] theorem drawn_sh {T os d f p} : drawn T os d (.c .one [.sh f p]) = .c .one [.sh f p] := by unfold drawn; split <;> rfl
@[go_sem] theorem drawn_br {T os d s o q kd lo f es rows} : drawn T os d (.c .one [.br s o q kd lo f es rows]) = .c .one [.br s o q kd lo f es rows] := by unfold drawn; split <;> rfl
@[go_sem] theorem drawn_dead {T os d} : drawn T os d (.c .one [.dead]) = .c .one [.dead] := by unfold drawn; split <;> rfl
@[go_sem] theorem drawn_agg {T os d l} : drawn T os d (.c .agg l) = .c .agg l := by unfold drawn; split <;> rfl
@[go_sem] theorem drawn_box {T os d l} : drawn T os d (.c .box l) = .c .box l := by unfold drawn; split <;> rfl
@[go_sem] theorem drawn_tup {T os d s l} : drawn T os d (.c (.tup s) l) = .c (.tup s) l := by unfold drawn; split <;> rfl
@[go_sem] theorem drawn_bp {T os d s o} : drawn T os d (.bp s o) = .bp s o := by unfold drawn; split <;> rfl
@[go_sem] theorem drawn_ep {T os d s o q kd fl es i f row} : drawn T os d (.ep s o q kd fl es i f row) = .ep s o q kd fl es i f row := by unfold drawn; split <;> rfl
@[go_sem] theorem drawn_sp {T os d fl row f} : drawn T os d (.sp fl row f) = .sp fl row f := by unfold drawn; split <;> rfl
@[go_sem] theorem drawn_fn {T os d g caps} : drawn T os d (.fn g caps) = .fn g caps := by unfold drawn; split <;> rfl
@[go_sem] theorem drawn_ow {T os d f es rows} : drawn T os d (.c .one [.ow f es rows]) = if feeds T os d = true then .c .one [.sh f (.s es (erRows rows))] else .c .one [.ow f es rows] := rfl
@[go_sem] theorem flatPart_tmp {T : Tys} {os : List Oper} {t : Nat} : flatPart T os (.tmp t) = scalarAt T os t := rfl
@[go_sem] theorem flatPart_const {T : Tys} {os : List Oper} {v : Value} : flatPart T os (.const v) = true := rfl
@[go_sem] theorem flatPart_func {T : Tys} {os : List Oper} {v : FuncId} : flatPart T os (.func v) = false := rfl
@[go_sem] theorem flatPart_glob {T : Tys} {os : List Oper} {v} : flatPart T os (.global v) = false := rfl
@[go_sem] theorem some_beq {a b : Nat} : (some a == some b) = (a == b) := rfl
@[go_sem] theorem none_beq {a : Nat} : ((none : Option Nat) == some a) = false := rfl
@[go_sem] theorem nat_beq {a : Nat} : (a == a) = true := by simp
@[go_sem] theorem headApp_buildSlice {t a b} {dd : Option Tmp} {r : List Oper} : headApp (⟨dd, (.buildSlice t a b), ty, ps, af, gd⟩ :: r) = false := rfl
@[go_sem] theorem headApp_nil : headApp [] = false := rfl
@[go_sem] theorem isTail_store {t a x} {T : Tys} {os : List Oper} {dd : Option Tmp} {r : List Oper} : isTail T os ⟨dd, (.store t a x), ty, ps, af, gd⟩ r = true := rfl
@[go_sem] theorem headApp_store {t a x} {dd : Option Tmp} {r : List Oper} : headApp (⟨dd, (.store t a x), ty, ps, af, gd⟩ :: r) = false := rfl
@[go_sem ↓] theorem pu_move {x} : pureOp E call N ⟨some d, .move x, ty, ps, af, gd⟩ σ = some (opd E.T N ty σ x) := rfl
@[go_sem ↓] theorem pu_assign {x} : pureOp E call N ⟨some d, .assign x, ty, ps, af, gd⟩ σ = asgP (opd E.T N ty σ x) := rfl
attribute [go_sem] asgP
@[go_sem ↓] theorem pu_pick {c a b} : pureOp E call N ⟨some d, .pick c a b, ty, ps, af, gd⟩ σ = (opd E.T N ty σ c).bool?.map fun t => if t then opd E.T N ty σ a else opd E.T N ty σ b := rfl
@[go_sem ↓] theorem pu_bin {op t x y u} : pureOp E call N ⟨some d, .binOp op t x y u, ty, ps, af, gd⟩ σ = (binSV E.T op t (opd E.T N ty σ x) (opd E.T N ty σ y)).map pvSV := rfl
@[go_sem ↓] theorem pu_un {op t x} : pureOp E call N ⟨some d, .unOp op t x, ty, ps, af, gd⟩ σ = (unSV op (opd E.T N ty σ x)).map pvSV := rfl
@[go_sem ↓] theorem pu_conv {s t x} : pureOp E call N ⟨some d, .convert s t x, ty, ps, af, gd⟩ σ = convSV E.T s t (opd E.T N ty σ x) := rfl
@[go_sem ↓] theorem pu_fieldAddr {t x f} : pureOp E call N ⟨some d, .fieldAddr t x f, ty, ps, af, gd⟩ σ = fieldSV E.T t (opd E.T N ty σ x) f := rfl
@[go_sem ↓] theorem pu_indexAddr {t x i} : pureOp E call N ⟨some d, .indexAddr t x i, ty, ps, af, gd⟩ σ = indexSV E.T t (opd E.T N ty σ x) (opd E.T N ty σ i) := rfl
@[go_sem ↓] theorem pu_index {t x i} : pureOp E call N ⟨some d, .index t x i, ty, ps, af, gd⟩ σ = charSV E.T t (opd E.T N ty σ x) (opd E.T N ty σ i) := rfl
@[go_sem ↓] theorem pu_load {t x} : pureOp E call N ⟨some d, .load t x, ty, ps, af, gd⟩ σ = loadSV E.T σ t (opd E.T N ty σ x) := rfl
@[go_sem ↓] theorem pu_extract {x i} : pureOp E call N ⟨some d, .extract x i, ty, ps, af, gd⟩ σ = extSV (opd E.T N ty σ x) i := rfl
@[go_sem ↓] theorem pu_slice {t x lo hi} : pureOp E call N ⟨some d, .slice t x lo hi none, ty, ps, af, gd⟩ σ = sliceSV E.T t (opd E.T N ty σ x) (lo.map (opd E.T N ty σ)) (hi.map (opd E.T N ty σ)) := rfl
@[go_sem ↓] theorem pu_nilCheck {x} : pureOp E call N ⟨some d, .nilCheck x, ty, ps, af, gd⟩ σ = if guardPt (opd E.T N ty σ x) then some (opd E.T N ty σ x) else none := rfl
@[go_sem ↓] theorem pu_build {t ps'} : pureOp E call N ⟨some d, .build t ps', ty, ps, af, gd⟩ σ = (E.T.zr t).bind fun z => (E.T.ag t).bind fun a => if a then (fillSV E.T t (ps'.toList.map fun p => (p.1, opd E.T N ty σ p.2)) (z.map (PV.cv false))).map fun l => .c .agg l else none := rfl
@[go_sem ↓] theorem pu_makeSlice {t n m} : pureOp E call N ⟨some d, .makeSlice t n m, ty, ps, af, gd⟩ σ = makeSV E.T t (opd E.T N ty σ n) (opd E.T N ty σ m) := rfl
@[go_sem ↓] theorem pu_len {x t} : pureOp E call N ⟨some d, .call ⟨.builtin .len, #[x], #[t]⟩, ty, ps, af, gd⟩ σ = lenSV E.T t (opd E.T N ty σ x) := rfl
@[go_sem ↓] theorem pu_min {x y ts} : pureOp E call N ⟨some d, .call ⟨.builtin .min, #[x, y], ts⟩, ty, ps, af, gd⟩ σ = min2 (opd E.T N ty σ x) (opd E.T N ty σ y) := by
  show foldSV min2 (opd E.T N ty σ x) [opd E.T N ty σ y] = _
  simp only [foldSV]; cases min2 (opd E.T N ty σ x) (opd E.T N ty σ y) <;> rfl
@[go_sem ↓] theorem pu_max {x y ts} : pureOp E call N ⟨some d, .call ⟨.builtin .max, #[x, y], ts⟩, ty, ps, af, gd⟩ σ = max2 (opd E.T N ty σ x) (opd E.T N ty σ y) := by
  show foldSV max2 (opd E.T N ty σ x) [opd E.T N ty σ y] = _
  simp only [foldSV]; cases max2 (opd E.T N ty σ x) (opd E.T N ty σ y) <;> rfl
/-- A call that does nothing but answer. -/
def pureCall (E : Env) (call : CallF) (N : Nat) (ty : TypeId) (σ : St) (g : FuncId) (xs : List Operand) : Option SV :=
  if ((xs.map (opd E.T N ty σ)).flatMap ghostsOf).isEmpty then (lendArgs 0 (xs.map (opd E.T N ty σ))).bind fun q => (call g q.1 []).bind fun r =>
          if r.boxes.length = 0 ∧ (r.res.cells.any CV.flag && !q.2.1.isEmpty) = false ∧ isRes r.res = true ∧ r.res.cells.all noBr = true then some (r.res.reflag q.2.2) else none
        else none
@[go_sem ↓] theorem pu_call {g : FuncId} {xs : Array Operand} {ts} : pureOp E call N ⟨some d, .call ⟨.value (.func g), xs, ts⟩, ty, ps, af, gd⟩ σ = soSel (E.T.so g) (fun _ => none) (pureCall E call N ty σ g xs.toList) := by
  have hp : pureOp E call N ⟨some d, .call ⟨.value (.func g), xs, ts⟩, ty, ps, af, gd⟩ σ = if (E.T.so g).isSome then none else pureCall E call N ty σ g xs.toList := rfl
  rw [hp]
  cases E.T.so g <;> rfl
@[go_sem ↓] theorem pureCall_q {g : FuncId} {xs : List Operand} {M : Kont SV} : @Wq _ (pureCall E call N ty σ g xs) M = @Wq _ (some (xs.map (opd E.T N ty σ))) ⟨fun vs => @Bq ((vs.flatMap ghostsOf).isEmpty = true)
    ⟨@Wq _ (lendArgs 0 vs) ⟨fun q => @Wq _ (call g q.1 []) ⟨fun r => @Bq (r.boxes.length = 0 ∧ (r.res.cells.any CV.flag && !q.2.1.isEmpty) = false ∧ isRes r.res = true ∧ r.res.cells.all noBr = true) ⟨@Wq _ (some (r.res.reflag q.2.2)) M⟩ ⟨False⟩⟩⟩⟩ ⟨False⟩⟩ := by
  show Wp (pureCall E call N ty σ g xs) M.run = Wp (some (xs.map (opd E.T N ty σ))) fun vs => Br ((vs.flatMap ghostsOf).isEmpty = true) (Wp (lendArgs 0 vs) fun q => Wp (call g q.1 []) fun r => Br (r.boxes.length = 0 ∧ (r.res.cells.any CV.flag && !q.2.1.isEmpty) = false ∧ isRes r.res = true ∧ r.res.cells.all noBr = true) (Wp (some (r.res.reflag q.2.2)) M.run) False) False
  unfold pureCall
  simp only [wp_some, wp_ite, wp_bind, wp_none]

@[go_sem] theorem plain_skip : plain skipSV = true := rfl
@[go_sem] theorem isBox_skip : isBox skipSV = false := rfl
@[go_sem] theorem plain_undef : plain .undef = true := rfl
@[go_sem] theorem plain_one {l} : plain (.c .one l) = l.all fun c => !c.isOw := rfl
@[go_sem] theorem plain_agg {l} : plain (.c .agg l) = l.all fun c => !c.isOw := rfl
@[go_sem] theorem plain_tup {s l} : plain (.c (.tup s) l) = l.all fun c => !c.isOw := rfl
@[go_sem] theorem plain_bp {s o} : plain (.bp s o) = true := rfl
@[go_sem] theorem plain_ep {s o q kd fl es i f row} : plain (.ep s o q kd fl es i f row) = true := rfl
@[go_sem] theorem plain_sp {fl row f} : plain (.sp fl row f) = true := rfl
@[go_sem] theorem plain_fn {g caps} : plain (.fn g caps) = true := rfl
@[go_sem] theorem isBox_undef : isBox .undef = false := rfl
@[go_sem] theorem isBox_one {l} : isBox (.c .one l) = false := rfl
@[go_sem] theorem isBox_agg {l} : isBox (.c .agg l) = false := rfl
@[go_sem] theorem isBox_tup {s l} : isBox (.c (.tup s) l) = false := rfl
@[go_sem] theorem isBox_bp {s o} : isBox (.bp s o) = false := rfl
@[go_sem] theorem isBox_ep {s o q kd fl es i f row} : isBox (.ep s o q kd fl es i f row) = false := rfl
@[go_sem] theorem isBox_sp {fl row f} : isBox (.sp fl row f) = false := rfl
@[go_sem] theorem isBox_fn {g caps} : isBox (.fn g caps) = false := rfl
end
end Go.Proofs.YtblelojdboefjaaDoor.R

/- Walking the evaluator: slice literals, texts, conversions. -/
set_option linter.unusedVariables false
set_option linter.unusedSimpArgs false
namespace Go.Proofs.YtblelojdboefjaaDoor.R
open Go

theorem nest_here {c : CV} {σ : St} {q : St × Bool × PV} (h : nest c [] = some q) : q.1 = [] ∧ nest c σ = some (σ, q.2) := by
  cases c with
  | sh f p => simp only [nest] at h ⊢; injection h with h; subst h; exact ⟨rfl, rfl⟩
  | ow f es rows =>
    cases rows with
    | nil => simp only [nest] at h ⊢; injection h with h; subst h; exact ⟨rfl, rfl⟩
    | cons _ _ => simp [nest] at h
  | br s o q kd lo f es rows => simp [nest, cellAt, CV.isOw] at h
  | dead => simp [nest] at h
theorem nestM_here {tg tg' : Tgt} {c : CV} {σ : St} {q : St × (CV → CV) × Bool × PV} (h : nestM tg c [] = some q) : q.1 = [] ∧ q.2.1 = id ∧ nestM tg' c σ = some (σ, q.2) := by
  cases c with
  | sh f p => simp only [nestM] at h ⊢; injection h with h; subst h; exact ⟨rfl, rfl, rfl⟩
  | ow f es rows =>
    cases rows with
    | nil => simp only [nestM] at h ⊢; injection h with h; subst h; exact ⟨rfl, rfl, rfl⟩
    | cons _ _ => simp [nestM] at h
  | br s o q kd lo f es rows => simp [nestM, cellAt, CV.isOw] at h
  | dead => simp [nestM] at h
theorem nestAll_here {σ : St} : ∀ {l : List CV} {tg tg' : Option Tgt} {m m' : CV → CV} {q : St × Bool × List PV}, (∀ x, m x = x) → (∀ x, m' x = x) → tg.isNone = tg'.isNone → nestAll tg m l [] = some q → q.1 = [] ∧ nestAll tg' m' l σ = some (σ, q.2)
  | [], tg, tg', m, m', q, hm, hm', ht, h => by simp only [nestAll] at h ⊢; injection h with h; subst h; exact ⟨rfl, rfl⟩
  | c :: l, none, none, m, m', q, hm, hm', ht, h => by
    simp only [nestAll, hm, hm'] at h ⊢
    obtain ⟨r, h1, h2⟩ := Option.bind_eq_some_iff.1 h
    obtain ⟨e1, e2⟩ := nest_here (σ := σ) h1
    obtain ⟨p, h3, h4⟩ := Option.map_eq_some_iff.1 h2
    rw [e1] at h3
    obtain ⟨e3, e4⟩ := nestAll_here (σ := σ) hm hm' rfl h3
    subst h4
    refine ⟨e3, ?_⟩
    rw [e2, Option.bind_some]
    simp only [e4, Option.map_some]
  | c :: l, some g, some g', m, m', q, hm, hm', ht, h => by
    simp only [nestAll, hm, hm'] at h ⊢
    obtain ⟨r, h1, h2⟩ := Option.bind_eq_some_iff.1 h
    obtain ⟨e1, e5, e2⟩ := nestM_here (tg' := g') (σ := σ) h1
    obtain ⟨p, h3, h4⟩ := Option.map_eq_some_iff.1 h2
    rw [e1] at h3
    obtain ⟨e3, e4⟩ := nestAll_here (σ := σ) (tg := some g.next) (tg' := some g'.next) (m := fun x => r.2.1 x) (m' := fun x => r.2.1 x) (fun x => by rw [e5]; rfl) (fun x => by rw [e5]; rfl) rfl h3
    subst h4
    refine ⟨e3, ?_⟩
    rw [e2, Option.bind_some]
    simp only [e4, Option.map_some]
  | c :: l, none, some _, m, m', q, hm, hm', ht, h => by simp at ht
  | c :: l, some _, none, m, m', q, hm, hm', ht, h => by simp at ht
theorem fillRows_here {σ : St} {es : Nat} : ∀ {l : List (Nat × SV)} {tg tg' : Option Nat} {f : Bool} {rows : List (List PV)} {q : St × Bool × List (List PV)}, tg.isNone = tg'.isNone → fillRows tg es l f rows [] = some q → q.1 = [] ∧ fillRows tg' es l f rows σ = some (σ, q.2)
  | [], tg, tg', f, rows, q, ht, h => by simp only [fillRows] at h ⊢; injection h with h; subst h; exact ⟨rfl, rfl⟩
  | (i, x) :: l, tg, tg', f, rows, q, ht, h => by
    simp only [fillRows] at h ⊢
    obtain ⟨cs, h1, h⟩ := Option.bind_eq_some_iff.1 h
    obtain ⟨r, h2, h⟩ := Option.bind_eq_some_iff.1 h
    obtain ⟨e1, e2⟩ := nestAll_here (σ := σ) (tg' := tg'.map fun d => ⟨d, 0, [], i, 0⟩) (m' := id) (fun x => rfl) (fun x => rfl) (by simpa using ht) h2
    split at h
    · rename_i hc
      rw [e1] at h
      obtain ⟨e3, e4⟩ := fillRows_here (σ := σ) ht h
      refine ⟨e3, ?_⟩
      rw [h1, Option.bind_some, e2, Option.bind_some, if_pos (by rw [← ht]; exact hc)]
      exact e4
    · simp at h

section
variable {E : Env} {call : CallF} {N : Nat} {σ : St} {L : Kont St} {d : Tmp} {ty : TypeId} {ps : String} {af : Array Edge} {gd : Option (Nat × Bool)}
/-- A slice literal. -/
def litSt (T : Tys) (d : Nat) (t : TypeId) (n : Nat) (l : List (Nat × SV)) (σ : St) : Option (St × SV) := (T.sl t).bind fun e => (T.sz e).bind fun es => (T.zr e).bind fun z =>
      if n * es ≤ 16777216 ∧ z.length = es then (fillRows (if T.mo then some d else none) es l false (List.replicate n (if T.mo then z.map PV.zo else z)) σ).map fun r => (r.1, .c .one [.ow r.2.1 es r.2.2]) else none
@[go_sem ↓] theorem qp_buildSlice {t n ps'} : @Wq _ (stepOp E call N ⟨some d, .buildSlice t n ps', ty, ps, af, gd⟩ σ) L = @Bq (d < N) ⟨@Wq _ (some (clear d σ)) ⟨fun σ => @Wq _ (litSt E.T d t n (ps'.toList.map fun p => (p.1, opd E.T N ty σ p.2)) σ) ⟨fun r => @Wq _ (some (r.1.set d r.2)) L⟩⟩⟩ ⟨False⟩ := by
  show Wp _ L.run = Br (d < N) (Wp (some (clear d σ)) fun σ => Wp (litSt E.T d t n (ps'.toList.map fun p => (p.1, opd E.T N ty σ p.2)) σ) fun r => Wp (some (r.1.set d r.2)) L.run) False
  by_cases hd : d < N
  · simp only [stepOp, hd, if_true, br_true, wp_some, giveSt]
    generalize clear d σ = τ
    have he : effOp E call N ⟨some d, .buildSlice t n ps', ty, ps, af, gd⟩ d τ = litSt E.T d t n (ps'.toList.map fun p => (p.1, opd E.T N ty τ p.2)) τ := rfl
    have hp : ∀ v, pureOp E call N ⟨some d, .buildSlice t n ps', ty, ps, af, gd⟩ τ = some v → litSt E.T d t n (ps'.toList.map fun p => (p.1, opd E.T N ty τ p.2)) τ = some (τ, v) := fun v h => by
      simp only [pureOp] at h
      unfold litSt
      obtain ⟨e, h1, h⟩ := Option.bind_eq_some_iff.1 h
      obtain ⟨es, h2, h⟩ := Option.bind_eq_some_iff.1 h
      obtain ⟨z, h3, h⟩ := Option.bind_eq_some_iff.1 h
      rw [h1, Option.bind_some, h2, Option.bind_some, h3, Option.bind_some]
      split at h
      · rename_i hc
        obtain ⟨q, h4, h5⟩ := Option.map_eq_some_iff.1 h
        obtain ⟨_, e2⟩ := fillRows_here (σ := τ) (tg' := if E.T.mo = true then some d else none) (by split <;> rfl) h4
        rw [if_pos hc, e2, Option.map_some, h5]
      · simp at h
    cases hv : pureOp E call N ⟨some d, .buildSlice t n ps', ty, ps, af, gd⟩ τ with
    | some v => simp only [wp_some, hp v hv]
    | none => simp only [he, wp_map]
  · simp [stepOp, hd, Br]
@[go_sem ↓] theorem pu_buildSlice {t n ps'} : pureOp E call N ⟨some d, .buildSlice t n ps', ty, ps, af, gd⟩ σ = (litSt E.T 0 t n (ps'.toList.map fun p => (p.1, opd E.T N ty σ p.2)) []).map (·.2) := by
  show ((E.T.sl t).bind fun e => (E.T.sz e).bind fun es => (E.T.zr e).bind fun z =>
      if n * es ≤ 16777216 ∧ z.length = es then (fillRows (if E.T.mo then some 0 else none) es (ps'.toList.map fun p => (p.1, opd E.T N ty σ p.2)) false (List.replicate n (if E.T.mo then z.map PV.zo else z)) []).map fun r => SV.c .one [.ow r.2.1 es r.2.2] else none) = _
  unfold litSt
  cases E.T.sl t with
  | none => rfl
  | some e =>
    simp only [Option.bind_some]
    cases E.T.sz e with
    | none => rfl
    | some es =>
      simp only [Option.bind_some]
      cases E.T.zr e with
      | none => rfl
      | some z =>
        simp only [Option.bind_some]
        split
        · simp [Option.map_map, Function.comp_def]
        · rfl
@[go_sem] theorem isSh_sh {f p} : isSh (.sh f p) = true := rfl
@[go_sem] theorem isSh_ow {f es rows} : isSh (.ow f es rows) = false := rfl
@[go_sem] theorem isSh_br {s o q kd lo f es rows} : isSh (.br s o q kd lo f es rows) = false := rfl
@[go_sem] theorem isSh_dead : isSh .dead = false := rfl
attribute [go_sem] shOnly Option.isNone_some Option.isNone_none
attribute [go_sem] litSt bytes? Nat.one_mul Nat.mul_one
end

def callW (E : Env) (call : CallF) (N : Nat) (ty : TypeId) (d : Nat) (σ : St) (g : FuncId) (f : Operand) (xs : List Operand) : Option (St × SV) :=
  if ((xs.map (opd E.T N ty σ)).flatMap ghostsOf).isEmpty then (lendArgs 0 (xs.map (opd E.T N ty σ))).bind fun q => (call g q.1 []).bind fun r => retIn σ q r
      else callSt E call N ty d σ f xs
/-- A call of a function value. -/
def callV (E : Env) (call : CallF) (N : Nat) (ty : TypeId) (d : Nat) (σ : St) (v : SV) (f : Operand) (xs : List Operand) : Option (St × SV) :=
  match v with
  | .fn g [] => soSel (E.T.so g) (fun h => h d σ (xs.map (opd E.T N ty σ))) (callW E call N ty d σ g f xs)
  | _ => callSt E call N ty d σ f xs
@[go_sem ↓] theorem callAny_tmp {E : Env} {call : CallF} {N : Nat} {ty : TypeId} {d : Nat} {σ : St} {t : Nat} {xs : List Operand} {K : Kont (St × SV)} : @Wq _ (callAny E call N ty d σ (.tmp t) xs) K = @Wq _ (some (opd E.T N ty σ (.tmp t))) ⟨fun v => @Wq _ (callV E call N ty d σ v (.tmp t) xs) K⟩ := by
  rw [wq_some]; rfl
@[go_sem ↓] theorem callV_fn {E : Env} {call : CallF} {N : Nat} {ty : TypeId} {d : Nat} {σ : St} {g : FuncId} {f : Operand} {xs : List Operand} : callV E call N ty d σ (.fn g []) f xs = soSel (E.T.so g) (fun h => h d σ (xs.map (opd E.T N ty σ))) (callW E call N ty d σ g f xs) := rfl
@[go_sem ↓] theorem callW_q {E : Env} {call : CallF} {N : Nat} {ty : TypeId} {d : Nat} {σ : St} {g : FuncId} {f : Operand} {xs : List Operand} {K : Kont (St × SV)} : @Wq _ (callW E call N ty d σ g f xs) K = @Wq _ (some (xs.map (opd E.T N ty σ))) ⟨fun vs => @Bq ((vs.flatMap ghostsOf).isEmpty = true)
    ⟨@Wq _ (lendArgs 0 vs) ⟨fun q => @Wq _ (call g q.1 []) ⟨fun r => @Wq _ (retIn σ q r) K⟩⟩⟩ ⟨@Wq _ (callSt E call N ty d σ f xs) K⟩⟩ := by
  show Wp (callW E call N ty d σ g f xs) K.run = Wp (some (xs.map (opd E.T N ty σ))) fun vs => Br ((vs.flatMap ghostsOf).isEmpty = true) (Wp (lendArgs 0 vs) fun q => Wp (call g q.1 []) fun r => Wp (retIn σ q r) K.run) (Wp (callSt E call N ty d σ f xs) K.run)
  rw [wp_some]
  simp only [callW, wp_ite, wp_bind]

/-- A text that is put together is not too long. -/
theorem cat_ok {a b : Nat} (h : a + b ≤ 9223372036854775807) : (((a + b : Nat) : Int) > IntKind.i64.max) = False := by
  have : IntKind.i64.max = 9223372036854775807 := rfl
  simp only [eq_iff_iff, iff_false]
  omega
theorem i64max : IntKind.i64.max = 9223372036854775807 := rfl
theorem size_lit {l : List UInt8} : ByteArray.size ⟨⟨l⟩⟩ = l.length := rfl
theorem tl_lit {l : List UInt8} : ByteArray.toList ⟨⟨l⟩⟩ = l := by rw [ByteArray.toList_eq]
theorem extract_lit {l : List UInt8} {a b : Nat} : ByteArray.extract ⟨⟨l⟩⟩ a b = ⟨⟨(l.take b).drop a⟩⟩ := by
  apply ByteArray.ext
  apply Array.ext'
  simp only [ByteArray.data_extract, List.extract_toArray, List.extract_eq_take_drop]
  show (l.drop a).take (b - a) = (l.take b).drop a
  rw [List.drop_take]
theorem cat_lit {a b : List UInt8} : (⟨⟨a⟩⟩ : ByteArray) ++ ⟨⟨b⟩⟩ = ⟨⟨a ++ b⟩⟩ := by
  apply ByteArray.ext
  apply Array.ext'
  simp
@[go_sem] theorem cast_0 : ((0 : Nat) : Int) = 0 := rfl
@[go_sem] theorem cast_1 : ((1 : Nat) : Int) = 1 := rfl
@[go_sem] theorem cast_2 : ((2 : Nat) : Int) = 2 := rfl
@[go_sem] theorem cast_3 : ((3 : Nat) : Int) = 3 := rfl
@[go_sem] theorem cast_4 : ((4 : Nat) : Int) = 4 := rfl
@[go_sem] theorem cast_5 : ((5 : Nat) : Int) = 5 := rfl
@[go_sem] theorem cast_6 : ((6 : Nat) : Int) = 6 := rfl
@[go_sem] theorem cast_7 : ((7 : Nat) : Int) = 7 := rfl
@[go_sem] theorem cast_8 : ((8 : Nat) : Int) = 8 := rfl
@[go_sem] theorem cast_47 : ((47 : Nat) : Int) = 47 := rfl
@[go_sem] theorem m1_lt : ((-1 : Int) < 0) = True := by simp
@[go_sem] theorem z_le : ((0 : Int) ≤ 0) = True := by simp
@[go_sem] theorem lt_1_2 : ((1 : Int) < 2) = True := by simp
@[go_sem] theorem lt_0_1 : ((0 : Int) < 1) = True := by simp
@[go_sem] theorem lt_0_0 : ((0 : Int) < 0) = False := by simp
@[go_sem] theorem ge_m1 : ((-1 : Int) ≥ 0) = False := by simp
attribute [go_sem] List.range'_zero
theorem cons_beq_nil {a : UInt8} {l : List UInt8} : (a :: l == []) = false := rfl
theorem nil_beq_cons {a : UInt8} {l : List UInt8} : ([] == a :: l) = false := rfl
theorem nil_beq_nil : (([] : List UInt8) == []) = true := rfl
attribute [go_sem] cons_beq_nil nil_beq_cons nil_beq_nil size_lit tl_lit extract_lit decide_true decide_false Int.toNat_zero
theorem encode_one {n : Int} (h1 : 0 ≤ n) (h2 : n < 128) : Utf8.encode n = ⟨#[UInt8.ofNat n.toNat]⟩ := by
  unfold Utf8.encode
  have hv : Utf8.valid n = true := by unfold Utf8.valid; simp; omega
  simp only [hv, if_true]
  rw [if_pos (by omega)]

/-- A whole number from 0 in decimal digits. -/
def dec (n : Nat) : ByteArray := if n < 10 then ⟨#[UInt8.ofNat (48 + n)]⟩ else dec (n / 10) ++ ⟨#[UInt8.ofNat (48 + n % 10)]⟩
theorem dec_lt {n : Nat} (h : n < 10) : dec n = ⟨#[UInt8.ofNat (48 + n)]⟩ := by rw [dec, if_pos h]
theorem dec_ge {n : Nat} (h : ¬ n < 10) : dec n = dec (n / 10) ++ ⟨#[UInt8.ofNat (48 + n % 10)]⟩ := by rw [dec, if_neg h]
theorem dec_size (n : Nat) : (dec n).size ≤ n + 1 := by
  induction n using Nat.strongRecOn with
  | ind n ih =>
    by_cases h : n < 10
    · rw [dec_lt h]; show 1 ≤ n + 1; omega
    · rw [dec_ge h, ByteArray.size_append]
      have := ih (n / 10) (by omega)
      show (dec (n / 10)).size + 1 ≤ n + 1
      omega

end Go.Proofs.YtblelojdboefjaaDoor.R

/- Walking the evaluator: calls in the caller's slots. -/
set_option linter.unusedVariables false
set_option linter.unusedSimpArgs false
namespace Go.Proofs.YtblelojdboefjaaDoor.R
open Go

section
variable {N : Nat} {σ : St}
@[go_sem] theorem cup_sh {f p} : (CV.sh f p).up N = .sh f p := rfl
@[go_sem] theorem cup_ow {f es rows} : (CV.ow f es rows).up N = .ow f es rows := rfl
@[go_sem] theorem cup_dead : CV.dead.up N = .dead := rfl
@[go_sem] theorem cup_br {s o q kd lo f es rows} : (CV.br s o q kd lo f es rows).up N = .br (s + N) o q kd lo f es rows := by
  rw [Nat.add_comm]; rfl
@[go_sem] theorem sup_undef : SV.undef.up N = .undef := rfl
@[go_sem] theorem sup_skip : skipSV.up N = skipSV := rfl
@[go_sem] theorem sup_c {sh l} : (SV.c sh l).up N = .c sh (l.map (CV.up N)) := rfl
@[go_sem] theorem sup_bp {s o} : (SV.bp s o).up N = .bp (s + N) o := by rw [Nat.add_comm]; rfl
@[go_sem] theorem sup_ep {s o q kd fl es i f row} : (SV.ep s o q kd fl es i f row).up N = .ep (s + N) o q kd fl es i f row := by rw [Nat.add_comm]; rfl
@[go_sem] theorem sup_sp {fl row f} : (SV.sp fl row f).up N = .sp fl row f := rfl
@[go_sem] theorem sup_fn {g} : (SV.fn g []).up N = .fn g [] := rfl
theorem up_get {s : Nat} : (upSt N σ).getD s .undef = (σ.getD s .undef).up N := by
  unfold upSt
  rw [List.getD_eq_getElem?_getD, List.getElem?_map, List.getD_eq_getElem?_getD]
  cases σ[s]? <;> rfl
attribute [go_sem] up_get startI
@[go_sem] theorem isOw_up {c : CV} : (c.up N).isOw = c.isOw := by cases c <;> rfl
@[go_sem] theorem atQ_up {c : CV} {q : Path} : (c.up N).atQ q = c.atQ q := by cases c <;> rfl
@[go_sem] theorem wcell_up {s o : Nat} : cellAt (upSt N σ) s o = (cellAt σ s o).up N := by
  unfold cellAt
  rw [up_get]
  cases σ.getD s .undef with
  | c sh l =>
    simp only [SV.up]
    rw [List.getD_eq_getElem?_getD, List.getElem?_map, List.getD_eq_getElem?_getD]
    cases l[o]? <;> rfl
  | _ => rfl
@[go_sem] theorem plain_up {x : SV} : plain (x.up N) = plain x := by
  have h : ∀ l : List CV, ((l.map (CV.up N)).all fun c => !c.isOw) = l.all fun c => !c.isOw := fun l => by
    rw [List.all_map]; congr 1; funext c; cases c <;> rfl
  cases x with
  | c sh l => cases sh <;> first | rfl | exact h l
  | _ => rfl
@[go_sem] theorem up_len : (upSt N σ).length = σ.length := by simp [upSt]

theorem mapAll_map {g g' : Nat → CV → CV} {u : CV → CV} (h : ∀ j c, g j (u c) = u (g' j c)) : ∀ (j : Nat) (l : List CV), mapAll g j (l.map u) = (mapAll g' j l).map u
  | _, [] => rfl
  | j, c :: l => by simp only [List.map_cons, mapAll, h, mapAll_map h]
/-- What goes through the slots behind the first N. -/
theorem mapSt_up {g g' : Nat → Nat → CV → CV} {e e' : EpMap} (hg : ∀ k j c, g (k + N) j (c.up N) = (g' k j c).up N) (he : ∀ a b q, e (N + a) b q = (e' a b q).map fun r => (N + r.1, r.2.1, r.2.2)) : ∀ (k : Nat) (σ : St), mapSt g e (k + N) (upSt N σ) = upSt N (mapSt g' e' k σ)
  | _, [] => rfl
  | k, x :: l => by
    have ih := mapSt_up hg he (k + 1) l
    rw [Nat.add_right_comm] at ih
    simp only [upSt, List.map_cons, mapSt] at ih ⊢
    rw [ih]
    congr 1
    cases x with
    | c sh l => simp only [SV.up, SV.mapC, mapAll_map (hg k)]
    | ep s o q kd fl es i f row =>
      simp only [SV.up, SV.mapC, he]
      cases e' s o q with
      | none => rfl
      | some r => obtain ⟨a, b, c⟩ := r; rfl
    | _ => rfl
theorem mapSt_up0 {g g' : Nat → Nat → CV → CV} {e e' : EpMap} (hg : ∀ k j c, g (k + N) j (c.up N) = (g' k j c).up N) (he : ∀ a b q, e (N + a) b q = (e' a b q).map fun r => (N + r.1, r.2.1, r.2.2)) : mapSt g e N (upSt N σ) = upSt N (mapSt g' e' 0 σ) := by
  have := mapSt_up hg he 0 σ
  rwa [Nat.zero_add] at this
theorem mapSt_upid {g : Nat → Nat → CV → CV} {e : EpMap} (hg : ∀ k j (c : CV), g (k + N) j (c.up N) = c.up N) (he : ∀ a b q, e (N + a) b q = some (N + a, b, q)) : mapSt g e N (upSt N σ) = upSt N σ := by
  rw [mapSt_up0 (g' := fun _ _ c => c) (e' := fun a b q => some (a, b, q)) hg (fun a b q => he a b q)]
  rw [mapSt_id (fun _ _ _ => rfl) (fun _ _ _ => rfl)]
theorem epOff_up {s o : Nat} : ∀ a b q, epOff (s + N) o (N + a) b q = (epOff s o a b q).map fun r => (N + r.1, r.2.1, r.2.2) := fun a b q => by
  unfold epOff
  by_cases h : a = s ∧ b = o
  · rw [if_pos h, if_pos ⟨by omega, h.2⟩]; rfl
  · rw [if_neg h, if_neg (fun h' => h ⟨by omega, h'.2⟩)]; rfl
theorem epOff_lt {s o : Nat} (h : s < N) : ∀ a b q, epOff s o (N + a) b q = some (N + a, b, q) := fun a b q => by
  unfold epOff; rw [if_neg (by omega)]

@[go_sem] theorem up_dem {s o : Nat} (h : s < N) : mapSt (demC s o) (epOff s o) N (upSt N σ) = upSt N σ :=
  mapSt_upid (fun k j c => by cases c <;> simp [CV.up, demC] <;> omega) (epOff_lt h)
@[go_sem] theorem up_off {s o : Nat} (h : s < N) : mapSt (offC s o) (epOff s o) N (upSt N σ) = upSt N σ :=
  mapSt_upid (fun k j c => by cases c <;> simp [CV.up, offC] <;> omega) (epOff_lt h)
@[go_sem] theorem up_mv {s o s' o' : Nat} {m : Option Nat} (h : s < N) : mapSt (mvC s o s' o' m) (epTo s o s' o' m) N (upSt N σ) = upSt N σ :=
  mapSt_upid (fun k j c => by
    cases c with
    | br a b q kd lo f es rows => simp only [CV.up, mvC]; rw [if_neg (by omega)]
    | ow f es rows => simp only [CV.up, mvC]; rw [if_neg (by omega)]
    | _ => rfl) (fun a b q => by unfold epTo; rw [if_neg (by omega)])
@[go_sem] theorem up_mod {s o : Nat} {q : Path} {g : PV → PV} {f' : Bool} (h : s < N) : mapSt (modC s o q g f') (epOff s o) N (upSt N σ) = upSt N σ :=
  mapSt_upid (fun k j c => by
    cases c with
    | br a b q kd lo f es rows => simp only [CV.up, modC, modL]; rw [if_neg (by omega)]
    | ow f es rows => simp only [CV.up, modC]; rw [if_neg (by omega)]
    | _ => rfl) (epOff_lt h)
@[go_sem] theorem up_mvp {s o s' o' : Nat} {q q' : Path} (h : s < N) : mapSt (mvpC s o q s' o' q') (epOff s o) N (upSt N σ) = upSt N σ :=
  mapSt_upid (fun k j c => by
    cases c with
    | br a b q kd lo f es rows => simp only [CV.up, mvpC, mvpL]; rw [if_neg (by omega)]
    | ow f es rows => simp only [CV.up, mvpC]; rw [if_neg (by omega)]
    | _ => rfl) (epOff_lt h)
@[go_sem] theorem up_dem' {s o : Nat} : mapSt (demC (s + N) o) (epOff (s + N) o) N (upSt N σ) = upSt N (demote s o σ) :=
  mapSt_up0 (fun k j c => by
    cases c with
    | br a b q kd lo f es rows =>
      simp only [CV.up, demC]
      by_cases h : a = s ∧ b = o
      · rw [if_pos h, if_pos ⟨by omega, h.2⟩]; try rfl
      · rw [if_neg h, if_neg fun h' => h ⟨by omega, h'.2⟩]; try rfl
    | ow f es rows =>
      simp only [CV.up, demC]
      by_cases h : k = s ∧ j = o
      · rw [if_pos h, if_pos ⟨by omega, h.2⟩]; try rfl
      · rw [if_neg h, if_neg fun h' => h ⟨by omega, h'.2⟩]; try rfl
    | _ => rfl) epOff_up
@[go_sem] theorem up_off' {s o : Nat} : mapSt (offC (s + N) o) (epOff (s + N) o) N (upSt N σ) = upSt N (off s o σ) :=
  mapSt_up0 (fun k j c => by
    cases c with
    | br a b q kd lo f es rows =>
      simp only [CV.up, offC]
      by_cases h : a = s ∧ b = o
      · rw [if_pos h, if_pos ⟨by omega, h.2⟩]; try rfl
      · rw [if_neg h, if_neg fun h' => h ⟨by omega, h'.2⟩]; try rfl
    | ow f es rows =>
      simp only [CV.up, offC]
      by_cases h : k = s ∧ j = o
      · rw [if_pos h, if_pos ⟨by omega, h.2⟩]; try rfl
      · rw [if_neg h, if_neg fun h' => h ⟨by omega, h'.2⟩]; try rfl
    | _ => rfl) epOff_up
@[go_sem] theorem up_mod' {s o : Nat} {q : Path} {g : PV → PV} {f' : Bool} : mapSt (modC (s + N) o q g f') (epOff (s + N) o) N (upSt N σ) = upSt N (modS s o q g f' σ) :=
  mapSt_up0 (fun k j c => by
    cases c with
    | br a b q' kd lo f es rows =>
      simp only [CV.up, modC, modL]
      by_cases h : a = s ∧ b = o
      · rw [if_pos h, if_pos ⟨by omega, h.2⟩]
        by_cases hk : kd = 0
        · rw [if_pos hk, if_pos hk]
          cases strip q' q with
          | none => rfl
          | some r =>
            simp only
            cases modP g r (.o es rows) <;> rfl
        · rw [if_neg hk, if_neg hk]; try rfl
      · rw [if_neg h, if_neg fun h' => h ⟨by omega, h'.2⟩]; try rfl
    | ow f es rows =>
      simp only [CV.up, modC]
      by_cases h : k = s ∧ j = o
      · rw [if_pos h, if_pos ⟨by omega, h.2⟩]
        cases modP g q (.o es rows) <;> rfl
      · rw [if_neg h, if_neg fun h' => h ⟨by omega, h'.2⟩]; try rfl
    | _ => rfl) epOff_up

theorem mapSt_drop {g : Nat → Nat → CV → CV} {e : EpMap} : ∀ (n k : Nat) (ρ : St), (mapSt g e k ρ).drop n = mapSt g e (k + n) (ρ.drop n)
  | 0, k, ρ => rfl
  | n + 1, k, [] => rfl
  | n + 1, k, x :: ρ => by
    simp only [mapSt, List.drop_succ_cons, mapSt_drop n (k + 1) ρ]
    congr 1; omega
/-- The slots from N on are the caller's. -/
def Tail (N : Nat) (ρ σ : St) : Prop := N ≤ ρ.length ∧ ρ.drop N = upSt N σ
theorem Tail.dem {ρ : St} {d j : Nat} (h : Tail N ρ σ) (hd : d < N) : Tail N (demote d j ρ) σ := by
  refine ⟨by unfold demote; rw [mapSt_length]; exact h.1, ?_⟩
  unfold demote
  rw [mapSt_drop, h.2, Nat.zero_add, up_dem hd]
theorem Tail.demAll {d : Nat} (hd : d < N) : ∀ {n j : Nat} {ρ : St}, Tail N ρ σ → Tail N (demoteAll d j n ρ) σ
  | 0, j, ρ, h => h
  | n + 1, j, ρ, h => by
    unfold demoteAll
    refine Tail.demAll hd ?_
    split
    · exact h.dem hd
    · exact h
theorem Tail.set {ρ : St} {d : Nat} {v : SV} (h : Tail N ρ σ) (hd : d < N) : Tail N (ρ.set d v) σ := by
  refine ⟨by rw [List.length_set]; exact h.1, ?_⟩
  rw [List.drop_set, if_pos hd]
  exact h.2
theorem Tail.cut {ρ : St} {d : Nat} (h : Tail N ρ σ) (hd : d < N) : Tail N (ρ.map (SV.cut d)) σ := by
  refine ⟨by rw [List.length_map]; exact h.1, ?_⟩
  rw [← List.map_drop, h.2]
  unfold upSt
  rw [List.map_map]
  congr 1
  funext x
  cases x with
  | bp s o => simp only [Function.comp, SV.up, SV.cut]; rw [if_neg (by omega)]
  | fn g caps =>
    simp only [Function.comp, SV.up, SV.cut]
    rw [if_neg]
    simp
    intro x _; omega
  | _ => rfl
theorem Tail.clear {ρ : St} {d : Nat} (h : Tail N ρ σ) (hd : d < N) : Tail N (clear d ρ) σ := by
  unfold R.clear
  split
  · exact ((h.demAll hd).cut hd).set hd
  · exact h.demAll hd
  · exact h
theorem Tail.tidy : ∀ {ds : List Nat} {ρ : St}, Tail N ρ σ → Tail N (tidy N ds ρ) σ
  | [], ρ, h => h
  | d :: ds, ρ, h => by
    unfold R.tidy
    refine Tail.tidy ?_
    split
    · rename_i hd
      exact (h.clear hd).set hd
    · exact h
theorem dn_up {x : SV} : (x.up N).dn N = x := by
  have hc : ∀ c : CV, (c.up N).dn N = c := fun c => by
    cases c with
    | br s o q kd lo f es rows => simp [CV.up, CV.dn]
    | _ => rfl
  cases x with
  | c sh l =>
    have : (CV.dn N ∘ CV.up N) = id := by funext c; exact hc c
    simp [SV.up, SV.dn, this]
  | bp s o => simp [SV.up, SV.dn]
  | ep s o q kd fl es i f row => simp [SV.up, SV.dn]
  | fn g caps =>
    have : ((fun x => x - N) ∘ fun x => N + x) = id := by funext x; simp
    simp [SV.up, SV.dn, this]
  | _ => rfl
theorem Tail.dn {ρ : St} (h : Tail N ρ σ) : dnSt N ρ = σ := by
  unfold dnSt
  rw [h.2]
  unfold upSt
  rw [List.map_map]
  have : (SV.dn N ∘ SV.up N) = id := by funext x; exact dn_up
  rw [this, List.map_id]
theorem Tail.put {ρ : St} {d : Nat} {v : SV} (h : Tail N ρ σ) : Tail N (ρ.set (N + d) (v.up N)) (σ.set d v) := by
  refine ⟨by rw [List.length_set]; exact h.1, ?_⟩
  rw [List.drop_set, if_neg (by omega), h.2, show N + d - N = d by omega]
  unfold upSt
  rw [List.map_set]
theorem Tail.get {ρ : St} {d : Nat} (h : Tail N ρ σ) : ρ.getD (N + d) .undef = (σ.getD d .undef).up N := by
  rw [← up_get, ← h.2, List.getD_eq_getElem?_getD, List.getD_eq_getElem?_getD, List.getElem?_drop]
theorem clear_plain {ρ : St} {d : Nat} (h : plain (ρ.getD d .undef) = true) : clear d ρ = ρ := by
  rw [clear_with]
  have hd : ∀ (l : List CV) (j : Nat), (l.all fun c => !c.isOw) = true → demL d j l ρ = ρ := by
    intro l
    induction l with
    | nil => intro j _; rfl
    | cons c l ih =>
      intro j h
      simp only [List.all_cons, Bool.and_eq_true, Bool.not_eq_true'] at h
      simp only [demL, h.1, Bool.false_eq_true, if_false]
      exact ih _ h.2
  unfold clearWith
  split
  · rename_i l e; rw [e] at h; simp [plain] at h
  · rename_i sh l hs e
    rw [e] at h
    cases sh with
    | box => exact absurd rfl hs
    | _ => exact hd l 0 h
  · rfl

/-- What a call in the caller's slots leaves. -/
theorem finishI_of {T : Tys} {d : Nat} {rs : List ResultVar} {τ τ2 : St} {sh : List (Bool × Nat)} {cs cs0 : List CV} (hτ : Tail N τ σ) (hd : d < σ.length) (hp : plain (σ.getD d .undef) = true)
    (hr : leaveRes T true N (N + d) 0 rs (τ.set (N + d) .undef) = some (τ2, sh, cs)) (h2 : Tail N τ2 (σ.set d .undef)) (hc : cs = cs0.map (CV.up N)) :
    finishI T N d rs τ = some (σ.set d (.c (shapeOf sh) cs0), .c (shapeOf sh) cs0) := by
  have hw : wipe (N + d) τ = τ.set (N + d) .undef := by
    unfold wipe
    rw [clear_plain]
    rw [hτ.get, plain_up]; exact hp
  unfold finishI
  rw [hw, hr]
  simp only [Option.map_some]
  have hV : SV.c (shapeOf sh) cs = (SV.c (shapeOf sh) cs0).up N := by rw [hc]; rfl
  have h3 : Tail N (tidy N (List.range N) (τ2.set (N + d) (SV.c (shapeOf sh) cs))) (σ.set d (.c (shapeOf sh) cs0)) := by
    rw [hV]
    have := (h2.put (d := d) (v := SV.c (shapeOf sh) cs0)).tidy (ds := List.range N)
    rwa [List.set_set] at this
  rw [h3.dn]
  rw [List.getD_eq_getElem?_getD, List.getElem?_set_self hd]
  rfl
/-- A call without an answer. -/
theorem finishI_void {T : Tys} {d : Nat} {τ : St} (hτ : Tail N τ σ) (hd : d < σ.length) (hp : plain (σ.getD d .undef) = true) : finishI T N d [] τ = some (σ.set d skipSV, skipSV) :=
  finishI_of (sh := []) (cs0 := []) hτ hd hp rfl (hτ.put (v := .undef)) rfl

theorem mapAll_comp {g1 g2 g : Nat → CV → CV} (h : ∀ j c, g2 j (g1 j c) = g j c) : ∀ (j : Nat) (l : List CV), mapAll g2 j (mapAll g1 j l) = mapAll g j l
  | _, [] => rfl
  | j, c :: l => by simp only [mapAll, h, mapAll_comp h]
theorem mapSt_comp {g1 g2 g : Nat → Nat → CV → CV} {e1 e2 e : EpMap} (h : ∀ k j c, g2 k j (g1 k j c) = g k j c) (he : ∀ a b q, (e1 a b q).bind (fun r => e2 r.1 r.2.1 r.2.2) = e a b q) : ∀ (k : Nat) (σ : St), mapSt g2 e2 k (mapSt g1 e1 k σ) = mapSt g e k σ
  | _, [] => rfl
  | k, x :: l => by
    simp only [mapSt, mapSt_comp h he]
    congr 1
    cases x with
    | c sh l => simp only [SV.mapC, mapAll_comp (h k)]
    | ep s o q kd fl es i f row =>
      have := he s o q
      simp only [SV.mapC]
      cases h1 : e1 s o q with
      | none => rw [h1] at this; simp only [Option.bind_none] at this; rw [← this]
      | some r => obtain ⟨a, b, c⟩ := r; rw [h1] at this; simp only [Option.bind_some] at this; rw [← this]
    | _ => rfl
@[go_sem] theorem cellAt_modS {s o a b : Nat} {q : Path} {g : PV → PV} {f' : Bool} : cellAt (modS s o q g f' σ) a b = modC s o q g f' a b (cellAt σ a b) := by
  unfold modS
  rcases cellAt_map (modC s o q g f') (epOff s o) σ a b (modC_dead s o q g f' a b) with h | ⟨h1, h2⟩
  · exact h
  · rw [h2]
    have : cellAt (mapSt (modC s o q g f') (epOff s o) 0 σ) a b = .dead := by
      unfold cellAt
      rw [List.getD_eq_getElem?_getD, mapSt_get]
      cases hx : σ[a]? with
      | none => rfl
      | some x =>
        cases x with
        | c sh l => exact absurd hx (h1 sh l)
        | ep s1 o1 q1 kd fl es i f row =>
          simp only [Option.map_some, Option.getD_some, SV.mapC]
          cases epOff s o s1 o1 q1 <;> rfl
        | _ => rfl
    rw [this]; rfl
@[go_sem] theorem len_modS {s o : Nat} {q : Path} {g : PV → PV} {f' : Bool} : (modS s o q g f' σ).length = σ.length := by unfold modS; exact mapSt_length _ _ _ _
@[go_sem] theorem cellAt_modS' {s o a b : Nat} {q : Path} {g : PV → PV} {f' : Bool} : cellAt (mapSt (modC s o q g f') (epOff s o) 0 σ) a b = modC s o q g f' a b (cellAt σ a b) := cellAt_modS
@[go_sem] theorem len_modS' {s o : Nat} {q : Path} {g : PV → PV} {f' : Bool} : (mapSt (modC s o q g f') (epOff s o) 0 σ).length = σ.length := len_modS
theorem plain_modS {s o d : Nat} {q : Path} {g : PV → PV} {f' : Bool} (h : plain (σ.getD d .undef) = true) : plain ((modS s o q g f' σ).getD d .undef) = true := by
  unfold modS
  rw [List.getD_eq_getElem?_getD, mapSt_get]
  rw [List.getD_eq_getElem?_getD] at h
  cases hx : σ[d]? with
  | none => rfl
  | some x =>
    rw [hx] at h
    have hm : ∀ (l : List CV) (j : Nat), (l.all fun c => !c.isOw) = true → ((mapAll (modC s o q g f' (0 + d)) j l).all fun c => !c.isOw) = true := by
      intro l
      induction l with
      | nil => intro j _; rfl
      | cons c l ih =>
        intro j h
        simp only [List.all_cons, Bool.and_eq_true, Bool.not_eq_true'] at h
        simp only [mapAll, List.all_cons, Bool.and_eq_true, Bool.not_eq_true']
        exact ⟨modC_no s o q g f' _ _ c h.1, by simpa using ih (j + 1) (by simpa using h.2)⟩
    simp only [Option.map_some, Option.getD_some] at h ⊢
    cases x with
    | c sh l =>
      cases sh with
      | box => simp [plain] at h
      | one => first | exact hm l 0 h | (have := hm l 0 h; simpa using this)
      | agg => first | exact hm l 0 h | (have := hm l 0 h; simpa using this)
      | tup _ => first | exact hm l 0 h | (have := hm l 0 h; simpa using this)
    | ep s1 o1 q1 kd fl es i f row =>
      simp only [SV.mapC]
      cases epOff s o s1 o1 q1 <;> rfl
    | _ => rfl
theorem modS_modS {s o es : Nat} {f1 f2 : Bool} {r1 r2 : List (List PV)} (h : r1.length = r2.length) : modS s o [] (setRows es r2) f2 (modS s o [] (setRows es r1) f1 σ) = modS s o [] (setRows es r2) (f1 || f2) σ := by
  unfold modS
  refine mapSt_comp (fun k j c => ?_) (fun a b q => ?_) 0 σ
  · cases c with
    | ow f es1 rows =>
      simp only [modC]
      by_cases hk : k = s ∧ j = o
      · simp only [if_pos hk, modP_nil, setRows]
        by_cases hc : es1 = es ∧ rows.length = r1.length
        · rw [if_pos hc, if_pos ⟨hc.1, hc.2.trans h⟩]
          simp only [owBy, modC, if_pos hk, modP_nil, setRows]
          rw [if_pos ⟨hc.1, h⟩, Bool.or_assoc]
        · rw [if_neg hc, if_neg fun h' => hc ⟨h'.1, h'.2.trans h.symm⟩]
          rfl
      · simp only [if_neg hk, modC]
    | br a b q' kd lo f es1 rows =>
      simp only [modC, modL]
      by_cases hk : a = s ∧ b = o
      · simp only [if_pos hk]
        by_cases h0 : kd = 0
        · simp only [if_pos h0]
          cases q' with
          | nil =>
            simp only [strip, modP_nil, setRows]
            by_cases hc : es1 = es ∧ rows.length = r1.length
            · rw [if_pos hc, if_pos ⟨hc.1, hc.2.trans h⟩]
              simp only [brBy, modC, modL, if_pos hk, if_true, strip, modP_nil, setRows]
              rw [if_pos ⟨hc.1, h⟩, Bool.or_assoc]
            · rw [if_neg hc, if_neg fun h' => hc ⟨h'.1, h'.2.trans h.symm⟩]
              rfl
          | cons a q => rfl
        · simp only [if_neg h0]
      · simp only [if_neg hk, modC, modL]
    | _ => rfl
  · unfold epOff
    by_cases hk : a = s ∧ b = o
    · simp [hk]
    · simp [hk]
/-- The slots behind some stores into the slice of cell (s, o). -/
structure At (s o es d : Nat) (σ0 σ : St) (rows : List (List PV)) : Prop where
  cell : cellAt σ s o = .ow false es rows
  len : σ.length = σ0.length
  pl : plain (σ.getD d .undef) = true
  to : ∀ r : List (List PV), r.length = rows.length → modS s o [] (setRows es r) false σ = modS s o [] (setRows es r) false σ0
theorem At.refl {s o es d : Nat} {rows : List (List PV)} (h : cellAt σ s o = .ow false es rows) (hp : plain (σ.getD d .undef) = true) : At s o es d σ σ rows := ⟨h, rfl, hp, fun _ _ => rfl⟩
theorem At.step {s o es d : Nat} {σ0 : St} {rows r : List (List PV)} (h : At s o es d σ0 σ rows) (hr : r.length = rows.length) : At s o es d σ0 (modS s o [] (setRows es r) false σ) r where
  cell := by
    rw [cellAt_modS, h.cell, modC_ow', if_pos ⟨rfl, rfl⟩, modP_nil, setRows_o, if_pos ⟨rfl, hr.symm⟩]; rfl
  len := by rw [len_modS, h.len]
  pl := plain_modS h.pl
  to := fun r' hr' => by
    rw [modS_modS hr'.symm]
    exact h.to r' (hr'.trans hr)
theorem Tail.cell {ρ : St} {s o : Nat} (h : Tail N ρ σ) : cellAt ρ (s + N) o = (cellAt σ s o).up N := by
  rw [← wcell_up]
  unfold cellAt
  rw [← h.2, List.getD_eq_getElem?_getD, List.getD_eq_getElem?_getD, List.getElem?_drop, Nat.add_comm]
theorem cell_set {s o d : Nat} {v : SV} (hp : plain (σ.getD d .undef) = true) (hc : (cellAt σ s o).isOw = true) : cellAt (σ.set d v) s o = cellAt σ s o := by
  have hne : s ≠ d := fun e => by
    subst e
    unfold cellAt at hc
    generalize σ.getD s .undef = x at hp hc
    cases x with
    | c sh l =>
      have h1 : ∀ l : List CV, (l.all fun c => !c.isOw) = true → (l.getD o .dead).isOw = true → False := fun l h1 h2 => by
        rw [List.getD_eq_getElem?_getD] at h2
        cases hx : l[o]? with
        | none => rw [hx] at h2; simp [CV.isOw] at h2
        | some c =>
          rw [hx] at h2
          have := List.all_eq_true.1 h1 c (List.mem_of_getElem? hx)
          simp at h2; simp [h2] at this
      cases sh with
      | box => simp [plain] at hp
      | _ => exact h1 l hp hc
    | _ => simp [CV.isOw] at hc
  unfold cellAt
  rw [List.getD_eq_getElem?_getD, List.getD_eq_getElem?_getD, List.getElem?_set_ne (Ne.symm hne)]
/-- The answer is a look at what the caller owns. -/
theorem finishI_look {T : Tys} {d t : Nat} {τ : St} {s o : Nat} {q : Path} {kd lo : Nat} {f : Bool} {es : Nat} {rows : List (List PV)} (hτ : Tail N τ σ) (hd : d < σ.length) (hp : plain (σ.getD d .undef) = true) (ht : t < N)
    (hg : τ.getD t .undef = .c .one [.br (s + N) o q kd lo f es rows]) (hc : (cellAt σ s o).isOw = true) :
    finishI T N d [.tmp t] τ = some (σ.set d (.c .one [.br s o q kd lo f es rows]), .c .one [.br s o q kd lo f es rows]) := by
  have hT : Tail N (τ.set (N + d) .undef) (σ.set d .undef) := hτ.put (v := .undef)
  refine finishI_of (sh := [(false, 1)]) (cs := [.br (s + N) o q kd lo f es rows]) (cs0 := [.br s o q kd lo f es rows]) hτ hd hp ?_ hT (by simp [CV.up, Nat.add_comm])
  have h1 : (τ.set (N + d) .undef).getD t .undef = .c .one [.br (s + N) o q kd lo f es rows] := by
    rw [List.getD_eq_getElem?_getD, List.getElem?_set_ne (by omega), ← List.getD_eq_getElem?_getD]; exact hg
  have h2 : (cellAt (τ.set (N + d) .undef) (s + N) o).isOw = true := by
    rw [hT.cell, isOw_up, cell_set hp hc]; exact hc
  have h3 : resultSV T N (τ.set (N + d) .undef) (.tmp t) = some (.c .one [.br (s + N) o q kd lo f es rows]) := by
    simp only [resultSV, opd, if_pos ht, h1]; rfl
  have h4 : (true && decide (N ≤ s + N)) = true := by simp
  simp only [leaveRes, h3, Option.bind_some, resOf, leaveAll, id_eq, leaveC_br, h4, if_true, h2, Option.map_some]
  rfl
end
end Go.Proofs.YtblelojdboefjaaDoor.R
