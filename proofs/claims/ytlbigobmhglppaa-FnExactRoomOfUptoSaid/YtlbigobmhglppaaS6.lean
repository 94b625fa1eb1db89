/- Walking the evaluator: regions of drawn order. -/
import Derived.Test.YtlbigobmhglppaaS5
set_option linter.unusedVariables false
set_option linter.unusedSimpArgs false
namespace Go.Proofs.Ytlbigobmhglppaa.R
open Go

/-- A closed condition that the kernel shows. -/
def Chk [a : Later] : Prop := a.it
theorem chk {ops : Array Oper} {P : Prop} (h : apartOk ops = true) (h2 : P) : @Chk ⟨apartOk ops = true⟩ ∧ P := ⟨h, h2⟩

/-- One operation of a region of drawn order. -/
def pureStep (E : Env) (call : CallF) (N : Nat) (o : Oper) (w : Bool) (σ : St) : Option St :=
  match o.dst with
  | none => none
  | some d => if d < N ∧ plain (σ.getD d .undef) = true then
      (if w then pureOp E call N o σ else some .undef).bind fun v => if isBox v then none else some (σ.set d v)
    else none
def runPL (E : Env) (call : CallF) (N : Nat) (ops : Array Oper) : List Oper → St → Option St
  | [], σ => some σ
  | o :: r, σ => (wantedSt N ops o σ).bind fun w => (pureStep E call N o w σ).bind fun σ => runPL E call N ops r σ

section
variable {E : Env} {call : CallF} {N n : Nat} {σ : St} {K : Kont (Ex × St)} {L : Kont St} {d : Tmp} {ty : TypeId} {ps : String} {af : Array Edge} {gd : Option (Nat × Bool)}

theorem runPure_runPL {ops : Array Oper} : ∀ (r : List Oper) (k : Nat) (σ : St), ops.toList.drop k = r → runPure E call N ops (List.range' k r.length) σ = runPL E call N ops r σ
  | [], k, σ, h => by simp [runPure, runPL]
  | o :: r, k, σ, h => by
    have hk : ops.toList[k]? = some o := by
      have := congrArg (fun l => l[0]?) h
      simpa [List.getElem?_drop] using this
    have hd : ops.toList.drop (k + 1) = r := by
      have := congrArg List.tail h
      simpa [List.tail_drop] using this
    simp only [List.length_cons, List.range'_succ, runPure, runPL]
    rw [show ops[k]? = some o by simpa using hk]
    simp only
    congr 1; funext w
    unfold pureStep
    cases o.dst with
    | none => rfl
    | some d =>
      simp only
      split
      · cases (if w = true then pureOp E call N o σ else some .undef) with
        | none => rfl
        | some v =>
          simp only [Option.bind_some]
          split
          · rfl
          · simp only [Option.bind_some]; exact runPure_runPL r (k + 1) _ hd
      · rfl

@[go_sem ↓] theorem qp_draw {id : Nat} {ops : Array Oper} : @Wq _ (runCode E call N n (.region id ops true) σ) K = (@Chk ⟨apartOk ops = true⟩ ∧ @Wq _ (runPL E call N ops ops.toList σ) ⟨fun σ => K.run (.normal, σ)⟩) := by
  show Wp (runCode E call N n (.region id ops true) σ) K.run = (apartOk ops = true ∧ Wp (runPL E call N ops ops.toList σ) fun σ => K.run (.normal, σ))
  simp only [runCode, if_true]
  rw [List.range_eq_range', ← runPure_runPL ops.toList 0 σ rfl]
  by_cases h : apartOk ops = true
  · simp [h, wp_map]
  · simp [h]
@[go_sem ↓] theorem qp_pnil {ops : Array Oper} : @Wq _ (runPL E call N ops [] σ) L = @Wq _ (some σ) L := rfl
@[go_sem ↓] theorem qp_pcons {ops : Array Oper} {op : Op} {r : List Oper} :
    @Wq _ (runPL E call N ops (⟨some d, op, ty, ps, af, none⟩ :: r) σ) L = @Wq _ (some σ) ⟨fun σ => @Bq (d < N ∧ plain (σ.getD d .undef) = true) ⟨@Wq _ (pureOp E call N ⟨some d, op, ty, ps, af, none⟩ σ) ⟨fun v => @Bq (isBox v = true) ⟨False⟩ ⟨@Wq _ (some (σ.set d v)) ⟨fun σ => @Wq _ (runPL E call N ops r σ) L⟩⟩⟩⟩ ⟨False⟩⟩ := by
  show Wp (runPL E call N ops (⟨some d, op, ty, ps, af, none⟩ :: r) σ) L.run = Wp (some σ) fun σ => Br (d < N ∧ plain (σ.getD d .undef) = true) (Wp (pureOp E call N ⟨some d, op, ty, ps, af, none⟩ σ) fun v => Br (isBox v = true) False (Wp (some (σ.set d v)) fun σ => Wp (runPL E call N ops r σ) L.run)) False
  simp only [runPL, wantedSt, Option.bind_some, wp_bind, pureStep, wp_ite, wp_some, if_true, wp_none]
@[go_sem ↓] theorem qp_pcons_guard {ops : Array Oper} {j : Nat} {want : Bool} {op : Op} {r : List Oper} :
    @Wq _ (runPL E call N ops (⟨some d, op, ty, ps, af, some (j, want)⟩ :: r) σ) L = @Wq _ (some σ) ⟨fun σ => @Wq _ ((ops[j]?).bind (·.dst)) ⟨fun t => @Bq (t < N ∧ d < N ∧ plain (σ.getD d .undef) = true) ⟨@Wq _ (σ.getD t .undef).bool? ⟨fun b =>
      @Bq (b = want) ⟨@Wq _ (pureOp E call N ⟨some d, op, ty, ps, af, some (j, want)⟩ σ) ⟨fun v => @Bq (isBox v = true) ⟨False⟩ ⟨@Wq _ (some (σ.set d v)) ⟨fun σ => @Wq _ (runPL E call N ops r σ) L⟩⟩⟩⟩ ⟨@Wq _ (some (σ.set d .undef)) ⟨fun σ => @Wq _ (runPL E call N ops r σ) L⟩⟩⟩⟩ ⟨False⟩⟩⟩ := by
  show Wp (runPL E call N ops (⟨some d, op, ty, ps, af, some (j, want)⟩ :: r) σ) L.run = Wp (some σ) fun σ => Wp ((ops[j]?).bind (·.dst)) fun t => Br (t < N ∧ d < N ∧ plain (σ.getD d .undef) = true) (Wp (σ.getD t .undef).bool? fun b =>
      Br (b = want) (Wp (pureOp E call N ⟨some d, op, ty, ps, af, some (j, want)⟩ σ) fun v => Br (isBox v = true) False (Wp (some (σ.set d v)) fun σ => Wp (runPL E call N ops r σ) L.run)) (Wp (some (σ.set d .undef)) fun σ => Wp (runPL E call N ops r σ) L.run)) False
  simp only [runPL, wantedSt, wp_bind, wp_some, pureStep]
  generalize pureOp E call N ⟨some d, op, ty, ps, af, some (j, want)⟩ σ = po
  cases ops[j]? with
  | none => simp
  | some o =>
    simp only [wp_some]
    cases o.dst with
    | none => simp
    | some t =>
      simp only [wp_some]
      by_cases ht : t < N
      · by_cases hd : d < N ∧ plain (σ.getD d .undef) = true
        · have hb : isBox .undef = false := rfl
          simp only [ht, hd.1, hd.2, and_self, if_true, wp_map, wp_bind, wp_ite, wp_some, wp_none, br_true, hb, Bool.false_eq_true, if_false]
          congr 1; funext b
          by_cases hw : b = want
          · simp [hw]
          · simp [hw, hb]
        · have : (t < N ∧ d < N ∧ plain (σ.getD d .undef) = true) = False := by simp only [eq_iff_iff, iff_false]; exact fun h => hd h.2
          rw [this, br_false]
          simp only [ht, hd, if_true, if_false, wp_none, wp_map]
          simp [Wp]
      · simp [ht, Wp, Br]

@[go_sem ↓] theorem pu_move {x} : pureOp E call N ⟨some d, .move x, ty, ps, af, gd⟩ σ = some (opd E.T N ty σ x) := rfl
@[go_sem ↓] theorem pu_assign {x} : pureOp E call N ⟨some d, .assign x, ty, ps, af, gd⟩ σ = asgP (opd E.T N ty σ x) := rfl
attribute [go_sem] asgP
@[go_sem ↓] theorem pu_pick {c a b} : pureOp E call N ⟨some d, .pick c a b, ty, ps, af, gd⟩ σ = (opd E.T N ty σ c).bool?.map fun t => if t then opd E.T N ty σ a else opd E.T N ty σ b := rfl
@[go_sem ↓] theorem pu_bin {op t x y u} : pureOp E call N ⟨some d, .binOp op t x y u, ty, ps, af, gd⟩ σ = (binSV E.T op t (opd E.T N ty σ x) (opd E.T N ty σ y)).map pvSV := rfl
@[go_sem ↓] theorem pu_un {op t x} : pureOp E call N ⟨some d, .unOp op t x, ty, ps, af, gd⟩ σ = (unSV op (opd E.T N ty σ x)).map pvSV := rfl
@[go_sem ↓] theorem pu_conv {s t x} : pureOp E call N ⟨some d, .convert s t x, ty, ps, af, gd⟩ σ = convSV E.T s t (opd E.T N ty σ x) := rfl
@[go_sem ↓] theorem pu_fieldAddr {t x f} : pureOp E call N ⟨some d, .fieldAddr t x f, ty, ps, af, gd⟩ σ = fieldSV E.T t (opd E.T N ty σ x) f := rfl
@[go_sem ↓] theorem pu_indexAddr {t x i} : pureOp E call N ⟨some d, .indexAddr t x i, ty, ps, af, gd⟩ σ = indexSV E.T t (opd E.T N ty σ x) (opd E.T N ty σ i) := rfl
@[go_sem ↓] theorem pu_index {t x i} : pureOp E call N ⟨some d, .index t x i, ty, ps, af, gd⟩ σ = charSV E.T t (opd E.T N ty σ x) (opd E.T N ty σ i) := rfl
@[go_sem ↓] theorem pu_load {t x} : pureOp E call N ⟨some d, .load t x, ty, ps, af, gd⟩ σ = loadSV E.T σ t (opd E.T N ty σ x) := rfl
@[go_sem ↓] theorem pu_extract {x i} : pureOp E call N ⟨some d, .extract x i, ty, ps, af, gd⟩ σ = extSV (opd E.T N ty σ x) i := rfl
@[go_sem ↓] theorem pu_slice {t x lo hi} : pureOp E call N ⟨some d, .slice t x lo hi none, ty, ps, af, gd⟩ σ = sliceSV E.T t (opd E.T N ty σ x) (lo.map (opd E.T N ty σ)) (hi.map (opd E.T N ty σ)) := rfl
@[go_sem ↓] theorem pu_nilCheck {x} : pureOp E call N ⟨some d, .nilCheck x, ty, ps, af, gd⟩ σ = if guardPt (opd E.T N ty σ x) then some (opd E.T N ty σ x) else none := rfl
@[go_sem ↓] theorem pu_build {t ps'} : pureOp E call N ⟨some d, .build t ps', ty, ps, af, gd⟩ σ = (E.T.zr t).bind fun z => (E.T.ag t).bind fun a => if a then (fillSV E.T t (ps'.toList.map fun p => (p.1, opd E.T N ty σ p.2)) (z.map (PV.cv false))).map fun l => .c .agg l else none := rfl
@[go_sem ↓] theorem pu_makeSlice {t n m} : pureOp E call N ⟨some d, .makeSlice t n m, ty, ps, af, gd⟩ σ = makeSV E.T t (opd E.T N ty σ n) (opd E.T N ty σ m) := rfl
@[go_sem ↓] theorem pu_len {x t} : pureOp E call N ⟨some d, .call ⟨.builtin .len, #[x], #[t]⟩, ty, ps, af, gd⟩ σ = lenSV E.T t (opd E.T N ty σ x) := rfl
@[go_sem ↓] theorem pu_min {x y ts} : pureOp E call N ⟨some d, .call ⟨.builtin .min, #[x, y], ts⟩, ty, ps, af, gd⟩ σ = min2 (opd E.T N ty σ x) (opd E.T N ty σ y) := by
  show foldSV min2 (opd E.T N ty σ x) [opd E.T N ty σ y] = _
  simp only [foldSV]; cases min2 (opd E.T N ty σ x) (opd E.T N ty σ y) <;> rfl
@[go_sem ↓] theorem pu_max {x y ts} : pureOp E call N ⟨some d, .call ⟨.builtin .max, #[x, y], ts⟩, ty, ps, af, gd⟩ σ = max2 (opd E.T N ty σ x) (opd E.T N ty σ y) := by
  show foldSV max2 (opd E.T N ty σ x) [opd E.T N ty σ y] = _
  simp only [foldSV]; cases max2 (opd E.T N ty σ x) (opd E.T N ty σ y) <;> rfl
@[go_sem ↓] theorem pu_call {g : FuncId} {xs : Array Operand} {ts} {M : Kont SV} : @Wq _ (pureOp E call N ⟨some d, .call ⟨.value (.func g), xs, ts⟩, ty, ps, af, gd⟩ σ) M = @Wq _ (some (xs.toList.map (opd E.T N ty σ))) ⟨fun vs => @Bq ((vs.flatMap ghostsOf).isEmpty = true)
    ⟨@Wq _ (lendArgs 0 vs) ⟨fun q => @Wq _ (call g q.1 []) ⟨fun r => @Bq (r.boxes.length = 0 ∧ r.res.cells.any CV.flag = false ∧ isRes r.res = true ∧ r.res.cells.all noBr = true) ⟨@Wq _ (some (r.res.reflag q.2.2)) M⟩ ⟨False⟩⟩⟩⟩ ⟨False⟩⟩ := by
  have hp : pureOp E call N ⟨some d, .call ⟨.value (.func g), xs, ts⟩, ty, ps, af, gd⟩ σ = if ((xs.toList.map (opd E.T N ty σ)).flatMap ghostsOf).isEmpty then (lendArgs 0 (xs.toList.map (opd E.T N ty σ))).bind fun q => (call g q.1 []).bind fun r =>
          if r.boxes.length = 0 ∧ r.res.cells.any CV.flag = false ∧ isRes r.res = true ∧ r.res.cells.all noBr = true then some (r.res.reflag q.2.2) else none
        else none := rfl
  show Wp (pureOp E call N ⟨some d, .call ⟨.value (.func g), xs, ts⟩, ty, ps, af, gd⟩ σ) M.run = Wp (some (xs.toList.map (opd E.T N ty σ))) fun vs => Br ((vs.flatMap ghostsOf).isEmpty = true) (Wp (lendArgs 0 vs) fun q => Wp (call g q.1 []) fun r => Br (r.boxes.length = 0 ∧ r.res.cells.any CV.flag = false ∧ isRes r.res = true ∧ r.res.cells.all noBr = true) (Wp (some (r.res.reflag q.2.2)) M.run) False) False
  rw [hp]
  simp only [wp_some, wp_ite, wp_bind, wp_none]

@[go_sem] theorem plain_undef : plain .undef = true := rfl
@[go_sem] theorem plain_one {l} : plain (.c .one l) = l.all fun c => !c.isOw := rfl
@[go_sem] theorem plain_agg {l} : plain (.c .agg l) = l.all fun c => !c.isOw := rfl
@[go_sem] theorem plain_tup {s l} : plain (.c (.tup s) l) = l.all fun c => !c.isOw := rfl
@[go_sem] theorem plain_bp {s o} : plain (.bp s o) = true := rfl
@[go_sem] theorem plain_ep {s o kd fl es i f row} : plain (.ep s o kd fl es i f row) = true := rfl
@[go_sem] theorem plain_sp {fl row f} : plain (.sp fl row f) = true := rfl
@[go_sem] theorem plain_fn {g caps} : plain (.fn g caps) = true := rfl
@[go_sem] theorem isBox_undef : isBox .undef = false := rfl
@[go_sem] theorem isBox_one {l} : isBox (.c .one l) = false := rfl
@[go_sem] theorem isBox_agg {l} : isBox (.c .agg l) = false := rfl
@[go_sem] theorem isBox_tup {s l} : isBox (.c (.tup s) l) = false := rfl
@[go_sem] theorem isBox_bp {s o} : isBox (.bp s o) = false := rfl
@[go_sem] theorem isBox_ep {s o kd fl es i f row} : isBox (.ep s o kd fl es i f row) = false := rfl
@[go_sem] theorem isBox_sp {fl row f} : isBox (.sp fl row f) = false := rfl
@[go_sem] theorem isBox_fn {g caps} : isBox (.fn g caps) = false := rfl
end
end Go.Proofs.Ytlbigobmhglppaa.R
