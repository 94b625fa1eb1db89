/- Walking the evaluator by simp: what follows behind a step is carried as an instance, so that simp does not walk it before the step is done. -/
import Derived.Test.YtlbigobmhglppaaS3
set_option linter.unusedVariables false
set_option linter.unusedSimpArgs false
namespace Go.Proofs.Ytlbigobmhglppaa.R
open Go

class Kont (α : Type) where
  run : α → Prop
class Later where
  it : Prop
def Wq {α : Type} (x : Option α) [k : Kont α] : Prop := Wp x k.run
def Bq (c : Prop) [a : Later] [b : Later] : Prop := Br c a.it b.it
section
variable {α β : Type}
@[go_sem] theorem run_mk {f : α → Prop} {a : α} : (Kont.mk f).run a = f a := rfl
@[go_sem] theorem bq_true {A B : Later} : @Bq True A B = A.it := br_true
@[go_sem] theorem bq_false {A B : Later} : @Bq False A B = B.it := br_false
@[go_sem] theorem it_mk {p : Prop} : (Later.mk p).it = p := rfl
@[go_sem] theorem wq_some {a : α} {K : Kont α} : @Wq α (some a) K = K.run a := wp_some
@[go_sem] theorem wq_none {K : Kont α} : @Wq α none K = False := wp_none
@[go_sem ↓] theorem wq_bind {x : Option α} {g : α → Option β} {K : Kont β} : @Wq β (x.bind g) K = @Wq α x ⟨fun r => @Wq β (g r) K⟩ := wp_bind
@[go_sem ↓] theorem wq_map {x : Option α} {g : α → β} {K : Kont β} : @Wq β (x.map g) K = @Wq α x ⟨fun r => K.run (g r)⟩ := wp_map
@[go_sem ↓] theorem wq_ite {c : Prop} [Decidable c] {x y : Option α} {K : Kont α} : @Wq α (if c then x else y) K = @Bq c ⟨@Wq α x K⟩ ⟨@Wq α y K⟩ := wp_ite
theorem Wq.mono {x : Option α} {K L : Kont α} (h : @Wq α x K) (hk : ∀ r, K.run r → L.run r) : @Wq α x L := Wp.mono h hk
theorem wq_of {x : Option α} {r : α} {K : Kont α} (h : x = some r) (hk : K.run r) : @Wq α x K := wp_of h hk
theorem bq_mk {c : Prop} {A B : Later} (h1 : c → A.it) (h2 : ¬c → B.it) : @Bq c A B := ⟨h1, h2⟩
theorem bq_pos {c : Prop} {A B : Later} (h : c) (h1 : A.it) : @Bq c A B := br_pos h h1
theorem bq_neg {c : Prop} {A B : Later} (h : ¬c) (h1 : B.it) : @Bq c A B := br_neg h h1
end

attribute [go_sem ↓] cont_normal cont_exit cont_ret blk_normal blk_ret
@[go_sem ↓] theorem blk_exit' {i j : Nat} {K : Ex × St → Prop} {σ : St} : blk i K (.exit j, σ) = if j = i then K (.normal, σ) else K (.exit j, σ) := rfl

section
variable {E : Env} {call : CallF} {N n : Nat} {σ : St} {K : Kont (Ex × St)} {L : Kont St} {d : Tmp} {ty : TypeId} {ps : String} {af : Array Edge} {gd : Option (Nat × Bool)}
@[congr] theorem runCode_congr' {c : Code} {σ τ : St} (h : σ = τ) : runCode E call N n c σ = runCode E call N n c τ := by rw [h]
@[go_sem ↓] theorem qp_skip : @Wq _ (runCode E call N n .skip σ) K = @Wq _ (some σ) ⟨fun σ => K.run (.normal, σ)⟩ := wp_skip
@[go_sem ↓] theorem qp_label {l} : @Wq _ (runCode E call N n (.label l) σ) K = @Wq _ (some σ) ⟨fun σ => K.run (.normal, σ)⟩ := wp_label
@[go_sem ↓] theorem qp_exit {i} : @Wq _ (runCode E call N n (.exit i) σ) K = @Wq _ (some σ) ⟨fun σ => K.run (.exit i, σ)⟩ := wp_exit
@[go_sem ↓] theorem qp_ret : @Wq _ (runCode E call N n .ret σ) K = @Wq _ (some σ) ⟨fun σ => K.run (.ret, σ)⟩ := wp_ret
@[go_sem ↓] theorem qp_seq {a b : Code} : @Wq _ (runCode E call N n (.seq a b) σ) K = @Wq _ (runCode E call N n a σ) ⟨cont (fun σ => @Wq _ (runCode E call N n b σ) K) K.run⟩ := wp_seq
@[go_sem ↓] theorem qp_cond {c : Operand} {t e : Code} : @Wq _ (runCode E call N n (.cond c t e) σ) K = @Wq _ (some σ) ⟨fun σ => @Wq _ (opd E.T N 0 σ c).bool? ⟨fun x => @Bq (x = true) ⟨@Wq _ (runCode E call N n t σ) K⟩ ⟨@Wq _ (runCode E call N n e σ) K⟩⟩⟩ := wp_cond
@[go_sem ↓] theorem qp_block {id : Nat} {b : Code} : @Wq _ (runCode E call N n (.block id b) σ) K = @Wq _ (runCode E call N n b σ) ⟨blk id K.run⟩ := wp_block
@[go_sem ↓] theorem qp_region {id : Nat} {ops : Array Oper} : @Wq _ (runCode E call N n (.region id ops false) σ) K = @Wq _ (runL E call N ops ops.toList σ) ⟨fun σ => K.run (.normal, σ)⟩ := wp_region
@[go_sem ↓] theorem qp_nil {ops : Array Oper} : @Wq _ (runL E call N ops [] σ) L = @Wq _ (some σ) L := wp_nil
@[go_sem ↓] theorem qp_cons {ops : Array Oper} {d : Option Tmp} {op : Op} {ty : TypeId} {ps : String} {af : Array Edge} {r : List Oper} : @Wq _ (runL E call N ops (⟨d, op, ty, ps, af, none⟩ :: r) σ) L = @Wq _ (stepOp E call N ⟨d, op, ty, ps, af, none⟩ σ) ⟨fun σ => @Wq _ (runL E call N ops r σ) L⟩ := wp_cons
@[go_sem ↓] theorem qp_cons_guard {ops : Array Oper} {d : Tmp} {op : Op} {ty : TypeId} {ps : String} {af : Array Edge} {j : Nat} {want : Bool} {r : List Oper} : @Wq _ (runL E call N ops (⟨some d, op, ty, ps, af, some (j, want)⟩ :: r) σ) L = @Wq _ (some σ) ⟨fun σ => @Wq _ ((ops[j]?).bind (·.dst)) ⟨fun t => @Bq (t < N ∧ d < N) ⟨@Wq _ (σ.getD t .undef).bool? ⟨fun b => @Bq (b = want) ⟨@Wq _ (stepOp E call N ⟨some d, op, ty, ps, af, some (j, want)⟩ σ) ⟨fun σ => @Wq _ (runL E call N ops r σ) L⟩⟩ ⟨@Wq _ (some ((clear d σ).set d .undef)) ⟨fun σ => @Wq _ (runL E call N ops r σ) L⟩⟩⟩⟩ ⟨False⟩⟩⟩ := wp_cons_guard
@[go_sem ↓] theorem qp_move {x} : @Wq _ (stepOp E call N ⟨some d, .move x, ty, ps, af, gd⟩ σ) L = @Bq (d < N) ⟨@Wq _ (some (clear d σ)) ⟨fun σ => @Wq _ (some (σ.set d (opd E.T N ty σ x))) L⟩⟩ ⟨False⟩ := wp_move
@[go_sem ↓] theorem qp_pick {c a b} : @Wq _ (stepOp E call N ⟨some d, .pick c a b, ty, ps, af, gd⟩ σ) L = @Bq (d < N) ⟨@Wq _ (some (clear d σ)) ⟨fun σ => @Wq _ (opd E.T N ty σ c).bool? ⟨fun t => @Wq _ (some (σ.set d (if t then opd E.T N ty σ a else opd E.T N ty σ b))) L⟩⟩⟩ ⟨False⟩ := wp_pick
@[go_sem ↓] theorem qp_bin {op t x y u} : @Wq _ (stepOp E call N ⟨some d, .binOp op t x y u, ty, ps, af, gd⟩ σ) L = @Bq (d < N) ⟨@Wq _ (some (clear d σ)) ⟨fun σ => @Wq _ (binSV E.T op t (opd E.T N ty σ x) (opd E.T N ty σ y)) ⟨fun v => @Wq _ (some (σ.set d (pvSV v))) L⟩⟩⟩ ⟨False⟩ := wp_bin
@[go_sem ↓] theorem qp_un {op t x} : @Wq _ (stepOp E call N ⟨some d, .unOp op t x, ty, ps, af, gd⟩ σ) L = @Bq (d < N) ⟨@Wq _ (some (clear d σ)) ⟨fun σ => @Wq _ (unSV op (opd E.T N ty σ x)) ⟨fun v => @Wq _ (some (σ.set d (pvSV v))) L⟩⟩⟩ ⟨False⟩ := wp_un
@[go_sem ↓] theorem qp_conv {s t x} : @Wq _ (stepOp E call N ⟨some d, .convert s t x, ty, ps, af, gd⟩ σ) L = @Bq (d < N) ⟨@Wq _ (some (clear d σ)) ⟨fun σ => @Wq _ (convSV E.T s t (opd E.T N ty σ x)) ⟨fun v => @Wq _ (some (σ.set d v)) L⟩⟩⟩ ⟨False⟩ := wp_conv
@[go_sem ↓] theorem qp_fieldAddr {t x f} : @Wq _ (stepOp E call N ⟨some d, .fieldAddr t x f, ty, ps, af, gd⟩ σ) L = @Bq (d < N) ⟨@Wq _ (some (clear d σ)) ⟨fun σ => @Wq _ (fieldSV E.T t (opd E.T N ty σ x) f) ⟨fun v => @Wq _ (some (σ.set d v)) L⟩⟩⟩ ⟨False⟩ := wp_fieldAddr
@[go_sem ↓] theorem qp_indexAddr {t x i} : @Wq _ (stepOp E call N ⟨some d, .indexAddr t x i, ty, ps, af, gd⟩ σ) L = @Bq (d < N) ⟨@Wq _ (some (clear d σ)) ⟨fun σ => @Wq _ (indexSV E.T t (opd E.T N ty σ x) (opd E.T N ty σ i)) ⟨fun v => @Wq _ (some (σ.set d v)) L⟩⟩⟩ ⟨False⟩ := wp_indexAddr
@[go_sem ↓] theorem qp_index {t x i} : @Wq _ (stepOp E call N ⟨some d, .index t x i, ty, ps, af, gd⟩ σ) L = @Bq (d < N) ⟨@Wq _ (some (clear d σ)) ⟨fun σ => @Wq _ (charSV E.T t (opd E.T N ty σ x) (opd E.T N ty σ i)) ⟨fun v => @Wq _ (some (σ.set d v)) L⟩⟩⟩ ⟨False⟩ := wp_index
@[go_sem ↓] theorem qp_load {t x} : @Wq _ (stepOp E call N ⟨some d, .load t x, ty, ps, af, gd⟩ σ) L = @Bq (d < N) ⟨@Wq _ (some (clear d σ)) ⟨fun σ => @Wq _ (loadSV E.T σ t (opd E.T N ty σ x)) ⟨fun v => @Wq _ (some (σ.set d v)) L⟩⟩⟩ ⟨False⟩ := wp_load
@[go_sem ↓] theorem qp_extract {x i} : @Wq _ (stepOp E call N ⟨some d, .extract x i, ty, ps, af, gd⟩ σ) L = @Bq (d < N) ⟨@Wq _ (some (clear d σ)) ⟨fun σ => @Wq _ (extSV (opd E.T N ty σ x) i) ⟨fun v => @Wq _ (some (σ.set d v)) L⟩⟩⟩ ⟨False⟩ := wp_extract
@[go_sem ↓] theorem qp_slice {t x lo hi} : @Wq _ (stepOp E call N ⟨some d, .slice t x lo hi none, ty, ps, af, gd⟩ σ) L = @Bq (d < N) ⟨@Wq _ (some (clear d σ)) ⟨fun σ => @Wq _ (sliceSV E.T t (opd E.T N ty σ x) (lo.map (opd E.T N ty σ)) (hi.map (opd E.T N ty σ))) ⟨fun v => @Wq _ (some (σ.set d v)) L⟩⟩⟩ ⟨False⟩ := wp_slice
@[go_sem ↓] theorem qp_nilCheck {x} : @Wq _ (stepOp E call N ⟨some d, .nilCheck x, ty, ps, af, gd⟩ σ) L = @Bq (d < N) ⟨@Wq _ (some (clear d σ)) ⟨fun σ => @Bq (guardPt (opd E.T N ty σ x) = true) ⟨@Wq _ (some (σ.set d (opd E.T N ty σ x))) L⟩ ⟨False⟩⟩⟩ ⟨False⟩ := wp_nilCheck
@[go_sem ↓] theorem qp_build {t ps'} : @Wq _ (stepOp E call N ⟨some d, .build t ps', ty, ps, af, gd⟩ σ) L = @Bq (d < N) ⟨@Wq _ (some (clear d σ)) ⟨fun σ => @Wq _ (E.T.zr t) ⟨fun z => @Wq _ (E.T.ag t) ⟨fun a => @Bq (a = true) ⟨@Wq _ (fillSV E.T t (ps'.toList.map fun p => (p.1, opd E.T N ty σ p.2)) (z.map (PV.cv false))) ⟨fun l => @Wq _ (some (σ.set d (.c .agg l))) L⟩⟩ ⟨False⟩⟩⟩⟩⟩ ⟨False⟩ := wp_build
@[go_sem ↓] theorem qp_makeFunc {g caps} : @Wq _ (stepOp E call N ⟨some d, .makeFunc (.func g) #[] caps, ty, ps, af, gd⟩ σ) L = @Bq (d < N) ⟨@Wq _ (some (clear d σ)) ⟨fun σ => @Wq _ (caps.toList.mapM fun x => slotOf (opd E.T N ty σ x)) ⟨fun l => @Wq _ (some (σ.set d (.fn g l))) L⟩⟩⟩ ⟨False⟩ := wp_makeFunc
@[go_sem ↓] theorem qp_makeSlice {t n m} : @Wq _ (stepOp E call N ⟨some d, .makeSlice t n m, ty, ps, af, gd⟩ σ) L = @Bq (d < N) ⟨@Wq _ (some (clear d σ)) ⟨fun σ => @Wq _ (makeSV E.T t (opd E.T N ty σ n) (opd E.T N ty σ m)) ⟨fun v => @Wq _ (some (σ.set d v)) L⟩⟩⟩ ⟨False⟩ := wp_makeSlice
@[go_sem ↓] theorem qp_assign {x} : @Wq _ (stepOp E call N ⟨some d, .assign x, ty, ps, af, gd⟩ σ) L = @Bq (d < N) ⟨@Wq _ (some (clear d σ)) ⟨fun σ => @Wq _ (asgSV d (opd E.T N ty σ x) σ) ⟨fun r => @Wq _ (some (r.1.set d r.2)) L⟩⟩⟩ ⟨False⟩ := wp_assign
@[go_sem ↓] theorem qp_alloc {t} : @Wq _ (stepOp E call N ⟨some d, .alloc t, ty, ps, af, gd⟩ σ) L = @Bq (d < N) ⟨@Wq _ (some (clear d σ)) ⟨fun σ => @Wq _ (E.T.zr t) ⟨fun z => @Wq _ (some (σ.set d (.c .box (z.map (PV.cv false))))) L⟩⟩⟩ ⟨False⟩ := wp_alloc
@[go_sem ↓] theorem qp_box {t x} : @Wq _ (stepOp E call N ⟨some d, .box t x, ty, ps, af, gd⟩ σ) L = @Bq (d < N) ⟨@Wq _ (some (clear d σ)) ⟨fun σ => @Wq _ (E.T.sz t) ⟨fun n => @Wq _ (cells? (opd E.T N ty σ x)) ⟨fun cs => @Bq (cs.length = n) ⟨@Wq _ (persistAll d 0 cs σ) ⟨fun r => @Wq _ (some (r.1.set d (.c .box r.2))) L⟩⟩ ⟨False⟩⟩⟩⟩⟩ ⟨False⟩ := wp_box
@[go_sem ↓] theorem qp_store {t a x} : @Wq _ (stepOp E call N ⟨none, .store t a x, ty, ps, af, gd⟩ σ) L = @Wq _ (storeSt E.T N ty σ t a x) L := wp_store
@[go_sem ↓] theorem qp_call {f : Operand} {xs : Array Operand} {tys : Array TypeId} : @Wq _ (stepOp E call N ⟨some d, .call ⟨.value f, xs, tys⟩, ty, ps, af, gd⟩ σ) L = @Bq (d < N) ⟨@Wq _ (some (clear d σ)) ⟨fun σ => @Wq _ (callAny E call N ty σ f xs.toList) ⟨fun r => @Wq _ (some (r.1.set d r.2)) L⟩⟩⟩ ⟨False⟩ := wp_call
@[go_sem ↓] theorem qp_len {x : Operand} {t : TypeId} : @Wq _ (stepOp E call N ⟨some d, .call ⟨.builtin .len, #[x], #[t]⟩, ty, ps, af, gd⟩ σ) L = @Bq (d < N) ⟨@Wq _ (some (clear d σ)) ⟨fun σ => @Wq _ (lenSV E.T t (opd E.T N ty σ x)) ⟨fun v => @Wq _ (some (σ.set d v)) L⟩⟩⟩ ⟨False⟩ := wp_len
@[go_sem ↓] theorem qp_append {x y : Operand} {t u : TypeId} : @Wq _ (stepOp E call N ⟨some d, .call ⟨.builtin .append, #[x, y], #[t, u]⟩, ty, ps, af, gd⟩ σ) L = @Bq (d < N) ⟨@Wq _ (some (clear d σ)) ⟨fun σ => @Bq (((E.T.sl u).isSome || E.T.str u) = true) ⟨@Wq _ (appendSt E.T σ d t (opd E.T N ty σ x) (opd E.T N ty σ y)) ⟨fun r => @Wq _ (some (r.1.set d r.2)) L⟩⟩ ⟨False⟩⟩⟩ ⟨False⟩ := wp_append
@[go_sem ↓] theorem qp_min {x y : Operand} {ts : Array TypeId} : @Wq _ (stepOp E call N ⟨some d, .call ⟨.builtin .min, #[x, y], ts⟩, ty, ps, af, gd⟩ σ) L = @Bq (d < N) ⟨@Wq _ (some (clear d σ)) ⟨fun σ => @Wq _ (min2 (opd E.T N ty σ x) (opd E.T N ty σ y)) ⟨fun v => @Wq _ (some (σ.set d v)) L⟩⟩⟩ ⟨False⟩ := wp_min
@[go_sem ↓] theorem qp_max {x y : Operand} {ts : Array TypeId} : @Wq _ (stepOp E call N ⟨some d, .call ⟨.builtin .max, #[x, y], ts⟩, ty, ps, af, gd⟩ σ) L = @Bq (d < N) ⟨@Wq _ (some (clear d σ)) ⟨fun σ => @Wq _ (max2 (opd E.T N ty σ x) (opd E.T N ty σ y)) ⟨fun v => @Wq _ (some (σ.set d v)) L⟩⟩⟩ ⟨False⟩ := wp_max
end

theorem wq_pcall {E : Env} {n : Nat} {f : FuncId} {args : List SV} {bs : List (List CV)} {K : Kont Ret} {fn : Func} {code : Code} (ho : E.orc f = none) (hf : E.fns f = some fn) (hb : fn.body = some code) (hl : args.length ≤ fn.ntmps)
    (h : @Wq _ (runCode { E with D := E.dead f } (pcall E n) fn.ntmps n code (start fn.ntmps args bs)) ⟨fun r => ended r.1 ∧ @Wq _ (finish E.T fn.ntmps bs.length fn.results.toList r.2) K⟩) : @Wq _ (pcall E (n + 1) f args bs) K := wp_pcall ho hf hb hl h
theorem wq_loop {E : Env} {call : CallF} {N n : Nat} {b : Code} {σ : St} {K : Kont (Ex × St)} (I : Nat → St → Prop) (k : Nat) (hk : k < n) (hi : I k σ)
    (h : ∀ k σ, I k σ → @Wq _ (some (tidy N (E.D (firstId b)) σ)) ⟨fun σ => @Wq _ (runCode E call N n b σ) ⟨cont (fun σ' => ∃ k', k' < k ∧ I k' σ') K.run⟩⟩) : @Wq _ (runCode E call N n (.loop b) σ) K := wp_loop I k hk hi h
theorem wq_eq {α : Type} {x : Option α} {r : α} (h : @Wq α x ⟨fun s => s = r⟩) : x = some r := wp_eq h

end Go.Proofs.Ytlbigobmhglppaa.R
