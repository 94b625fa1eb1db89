/- Walking the evaluator: values. -/
import Derived.Test.YtlbigobmhglppaaS4
import Derived.Test.YtlbigobmhglppaaR6
set_option linter.unusedVariables false
set_option linter.unusedSimpArgs false
namespace Go.Proofs.Ytlbigobmhglppaa.R
open Go

section
variable {T : Tys} {N : Nat} {ty : TypeId} {σ : St}
@[go_sem] theorem opd_tmp {t : Nat} : opd T N ty σ (.tmp t) = if t < N then (σ.getD t .undef).view t else .undef := rfl
@[go_sem] theorem opd_const {v : Value} : opd T N ty σ (.const v) = constSV T ty v := rfl
@[go_sem] theorem opd_func {f : FuncId} : opd T N ty σ (.func f) = .fn f [] := rfl
@[go_sem] theorem const_int {k n} : constSV T ty (.int k n) = .c .one [.sh false (.i k n)] := rfl
@[go_sem] theorem const_bool {b} : constSV T ty (.bool b) = .c .one [.sh false (.b b)] := rfl
@[go_sem] theorem const_str {s} : constSV T ty (.string s) = .c .one [.sh false (.t s)] := rfl
theorem const_nil {es : Nat} (h : (T.sl ty).bind T.sz = some es) : constSV T ty (.slice none 0 0) = .c .one [.ow false es []] := by simp [constSV, h]
@[go_sem] theorem const_nil' : constSV T ty (.slice none 0 0) = match (T.sl ty).bind T.sz with
    | some es => .c .one [.ow false es []]
    | none => .undef := rfl

@[go_sem] theorem view_undef {k} : SV.undef.view k = .undef := rfl
@[go_sem] theorem view_box {k l} : (SV.c .box l).view k = .bp k 0 := rfl
@[go_sem] theorem view_one {k l} : (SV.c .one l).view k = .c .one (mapAll (CV.view k) 0 l) := rfl
@[go_sem] theorem view_agg {k l} : (SV.c .agg l).view k = .c .agg (mapAll (CV.view k) 0 l) := rfl
@[go_sem] theorem view_tup {k s l} : (SV.c (.tup s) l).view k = .c (.tup s) (mapAll (CV.view k) 0 l) := rfl
@[go_sem] theorem view_bp {k s o} : (SV.bp s o).view k = .bp s o := rfl
@[go_sem] theorem view_ep {k s o kd fl es i f row} : (SV.ep s o kd fl es i f row).view k = .ep s o kd fl es i f row := rfl
@[go_sem] theorem view_sp {k fl row f} : (SV.sp fl row f).view k = .sp fl row f := rfl
@[go_sem] theorem view_fn {k g caps} : (SV.fn g caps).view k = .fn g caps := rfl
@[go_sem] theorem cview_sh {k j f p} : (CV.sh f p).view k j = .sh f p := rfl
@[go_sem] theorem cview_ow {k j f es rows} : (CV.ow f es rows).view k j = .br k j 0 0 f es rows := rfl
@[go_sem] theorem cview_br {k j s o kd lo f es rows} : (CV.br s o kd lo f es rows).view k j = .br s o kd lo f es rows := rfl
@[go_sem] theorem cview_dead {k j} : CV.dead.view k j = .dead := rfl
@[go_sem] theorem mapAll_nil {g j} : mapAll g j [] = [] := rfl
@[go_sem] theorem mapAll_cons {g j c l} : mapAll g j (c :: l) = g j c :: mapAll g (j + 1) l := rfl
@[go_sem] theorem pvSV_eq {p} : pvSV p = .c .one [.sh false p] := rfl

@[go_sem] theorem one_one {y} : (SV.c .one [y]).one? = some y := rfl
@[go_sem] theorem pv_sh {f p} : (SV.c .one [.sh f p]).pv? = some p := rfl
@[go_sem] theorem pv_ow {f es rows} : (SV.c .one [.ow f es rows]).pv? = some (.s es rows) := rfl
@[go_sem] theorem pv_br {s o kd lo f es rows} : (SV.c .one [.br s o kd lo f es rows]).pv? = some (.s es rows) := rfl
@[go_sem] theorem int_sh {f k n} : (SV.c .one [.sh f (.i k n)]).int? = some (k, n) := rfl
@[go_sem] theorem bool_sh {f b} : (SV.c .one [.sh f (.b b)]).bool? = some b := rfl
@[go_sem] theorem cp_sh {f p} : (CV.sh f p).p? = some (f, p) := rfl
@[go_sem] theorem cp_ow {f es rows} : (CV.ow f es rows).p? = some (f, .s es rows) := rfl
@[go_sem] theorem cp_br {s o kd lo f es rows} : (CV.br s o kd lo f es rows).p? = some (f, .s es rows) := rfl

def isShift : BinOp → Bool
  | .shl | .shr => true
  | _ => false
theorem bin_int {op : BinOp} (h : isShift op = false) {t f g k a b} : binSV T op t (.c .one [.sh f (.i k a)]) (.c .one [.sh g (.i k b)]) = intOp op k a b := by
  cases op <;> simp [isShift] at h <;> simp [binSV, pv_sh]
@[go_sem] theorem bin_shl {t f g k k' a b} : binSV T .shl t (.c .one [.sh f (.i k a)]) (.c .one [.sh g (.i k' b)]) = shiftOp .shl k a b := rfl
@[go_sem] theorem bin_shr {t f g k k' a b} : binSV T .shr t (.c .one [.sh f (.i k a)]) (.c .one [.sh g (.i k' b)]) = shiftOp .shr k a b := rfl
section
variable {t : TypeId} {f g : Bool} {k : IntKind} {a b : Int}
@[go_sem] theorem bin_add : binSV T .add t (.c .one [.sh f (.i k a)]) (.c .one [.sh g (.i k b)]) = some (.i k (k.wrap (a + b))) := by rw [bin_int rfl]; rfl
@[go_sem] theorem bin_sub : binSV T .sub t (.c .one [.sh f (.i k a)]) (.c .one [.sh g (.i k b)]) = some (.i k (k.wrap (a - b))) := by rw [bin_int rfl]; rfl
@[go_sem] theorem bin_mul : binSV T .mul t (.c .one [.sh f (.i k a)]) (.c .one [.sh g (.i k b)]) = some (.i k (k.wrap (a * b))) := by rw [bin_int rfl]; rfl
@[go_sem] theorem bin_quo : binSV T .quo t (.c .one [.sh f (.i k a)]) (.c .one [.sh g (.i k b)]) = if b = 0 then none else some (.i k (k.wrap (a.tdiv b))) := by rw [bin_int rfl]; rfl
@[go_sem] theorem bin_rem : binSV T .rem t (.c .one [.sh f (.i k a)]) (.c .one [.sh g (.i k b)]) = if b = 0 then none else some (.i k (a.tmod b)) := by rw [bin_int rfl]; rfl
@[go_sem] theorem bin_and : binSV T .and t (.c .one [.sh f (.i k a)]) (.c .one [.sh g (.i k b)]) = some (.i k (k.wrap (BitVec.ofInt k.bits a &&& BitVec.ofInt k.bits b).toNat)) := by rw [bin_int rfl]; rfl
@[go_sem] theorem bin_or : binSV T .or t (.c .one [.sh f (.i k a)]) (.c .one [.sh g (.i k b)]) = some (.i k (k.wrap (BitVec.ofInt k.bits a ||| BitVec.ofInt k.bits b).toNat)) := by rw [bin_int rfl]; rfl
@[go_sem] theorem bin_xor : binSV T .xor t (.c .one [.sh f (.i k a)]) (.c .one [.sh g (.i k b)]) = some (.i k (k.wrap (BitVec.ofInt k.bits a ^^^ BitVec.ofInt k.bits b).toNat)) := by rw [bin_int rfl]; rfl
@[go_sem] theorem bin_eql : binSV T .eql t (.c .one [.sh f (.i k a)]) (.c .one [.sh g (.i k b)]) = some (.b (a == b)) := by rw [bin_int rfl]; rfl
@[go_sem] theorem bin_neq : binSV T .neq t (.c .one [.sh f (.i k a)]) (.c .one [.sh g (.i k b)]) = some (.b (a != b)) := by rw [bin_int rfl]; rfl
@[go_sem] theorem bin_lss : binSV T .lss t (.c .one [.sh f (.i k a)]) (.c .one [.sh g (.i k b)]) = some (.b (a < b)) := by rw [bin_int rfl]; rfl
@[go_sem] theorem bin_leq : binSV T .leq t (.c .one [.sh f (.i k a)]) (.c .one [.sh g (.i k b)]) = some (.b (a ≤ b)) := by rw [bin_int rfl]; rfl
@[go_sem] theorem bin_gtr : binSV T .gtr t (.c .one [.sh f (.i k a)]) (.c .one [.sh g (.i k b)]) = some (.b (a > b)) := by rw [bin_int rfl]; rfl
@[go_sem] theorem bin_geq : binSV T .geq t (.c .one [.sh f (.i k a)]) (.c .one [.sh g (.i k b)]) = some (.b (a ≥ b)) := by rw [bin_int rfl]; rfl
variable {x y : ByteArray}
theorem bin_str {op : BinOp} : binSV T op t (.c .one [.sh f (.t x)]) (.c .one [.sh g (.t y)]) = strOp op x y := by
  cases op <;> rfl
@[go_sem] theorem bin_cat : binSV T .add t (.c .one [.sh f (.t x)]) (.c .one [.sh g (.t y)]) = if ((x.size + y.size : Nat) : Int) > IntKind.i64.max then none else some (.t (x ++ y)) := rfl
@[go_sem] theorem bin_seql : binSV T .eql t (.c .one [.sh f (.t x)]) (.c .one [.sh g (.t y)]) = some (.b (x.toList == y.toList)) := rfl
@[go_sem] theorem bin_sneq : binSV T .neq t (.c .one [.sh f (.t x)]) (.c .one [.sh g (.t y)]) = some (.b !(x.toList == y.toList)) := rfl
@[go_sem] theorem bin_slss : binSV T .lss t (.c .one [.sh f (.t x)]) (.c .one [.sh g (.t y)]) = some (.b (Op.bytesLess x.toList y.toList)) := rfl
@[go_sem] theorem bin_sleq : binSV T .leq t (.c .one [.sh f (.t x)]) (.c .one [.sh g (.t y)]) = some (.b (Op.bytesLess x.toList y.toList || x.toList == y.toList)) := rfl
@[go_sem] theorem bin_sgtr : binSV T .gtr t (.c .one [.sh f (.t x)]) (.c .one [.sh g (.t y)]) = some (.b !(Op.bytesLess x.toList y.toList || x.toList == y.toList)) := rfl
@[go_sem] theorem bin_sgeq : binSV T .geq t (.c .one [.sh f (.t x)]) (.c .one [.sh g (.t y)]) = some (.b !(Op.bytesLess x.toList y.toList)) := rfl
variable {p q : Bool}
@[go_sem] theorem bin_beql : binSV T .eql t (.c .one [.sh f (.b p)]) (.c .one [.sh g (.b q)]) = if T.boo t then some (.b (p == q)) else none := by simp [binSV, pv_sh]
@[go_sem] theorem bin_bneq : binSV T .neq t (.c .one [.sh f (.b p)]) (.c .one [.sh g (.b q)]) = if T.boo t then some (.b !(p == q)) else none := by simp [binSV, pv_sh]
@[go_sem] theorem un_not : unSV .not (.c .one [.sh f (.b p)]) = some (.b !p) := rfl
@[go_sem] theorem un_neg : unSV .neg (.c .one [.sh f (.i k a)]) = some (.i k (k.wrap (0 - a))) := rfl
end

/-- Each owned cell of the list l, which lies in slot d from place j on, is let go. -/
def demL (d : Nat) : Nat → List CV → St → St
  | _, [], σ => σ
  | j, c :: l, σ => demL d (j + 1) l (if c.isOw then demote d j σ else σ)
theorem demL_all {d : Nat} : ∀ (l : List CV) (j : Nat) (σ : St), (∀ i, i < l.length → (cellAt σ d (j + i)).isOw = (l.getD i .dead).isOw) → demoteAll d j l.length σ = demL d j l σ
  | [], j, σ, h => rfl
  | c :: l, j, σ, h => by
    have h0 := h 0 (by simp)
    simp only [Nat.add_zero, List.getD_cons_zero] at h0
    simp only [List.length_cons, demoteAll, demL, h0]
    refine demL_all l (j + 1) _ fun i hi => ?_
    have h1 := h (i + 1) (by simp only [List.length_cons]; omega)
    rw [List.getD_cons_succ] at h1
    rw [← h1, show j + 1 + i = j + (i + 1) from by omega]
    split
    · cases hb : (cellAt σ d (j + (i + 1))).isOw with
      | false => exact isOw_map _ _ _ _ _ rfl (fun c hc => by
        cases c with
        | ow => simp [CV.isOw] at hc
        | br => simp only [demC]; split <;> rfl
        | _ => rfl) hb
      | true =>
        unfold demote
        rw [cellAt_map_ow _ _ _ _ _ rfl hb]
        cases hc : cellAt σ d (j + (i + 1)) with
        | ow f es rows =>
          simp only [demC]
          rw [if_neg (by omega)]; rfl
        | _ => rw [hc] at hb; simp [CV.isOw] at hb
    · rfl
def clearWith (x : SV) (d : Nat) (σ : St) : St :=
  match x with
  | .c .box l => ((demL d 0 l σ).map (SV.cut d)).set d .undef
  | .c _ l => demL d 0 l σ
  | _ => σ
theorem clear_with {d : Nat} : clear d σ = clearWith (σ.getD d .undef) d σ := by
  have key : ∀ sh l, σ.getD d .undef = .c sh l → demoteAll d 0 l.length σ = demL d 0 l σ := fun sh l h => demL_all l 0 σ fun i hi => by
    simp only [cellAt, h, Nat.zero_add]
  unfold clear clearWith
  generalize hx : σ.getD d .undef = x at key ⊢
  cases x with
  | c sh l =>
    have := key sh l rfl
    cases sh <;> simp only [this]
  | _ => rfl
@[go_sem ↓] theorem clear_eq {d : Nat} : clear d σ = clearWith (σ.getD d .undef) d σ := clear_with
@[go_sem] theorem cl_undef {d} : clearWith .undef d σ = σ := rfl
@[go_sem] theorem cl_bp {d s o} : clearWith (.bp s o) d σ = σ := rfl
@[go_sem] theorem cl_ep {d s o kd fl es i f row} : clearWith (.ep s o kd fl es i f row) d σ = σ := rfl
@[go_sem] theorem cl_sp {d fl row f} : clearWith (.sp fl row f) d σ = σ := rfl
@[go_sem] theorem cl_fn {d g caps} : clearWith (.fn g caps) d σ = σ := rfl
@[go_sem] theorem cl_box {d l} : clearWith (.c .box l) d σ = ((demL d 0 l σ).map (SV.cut d)).set d .undef := rfl
@[go_sem] theorem cl_one {d l} : clearWith (.c .one l) d σ = demL d 0 l σ := rfl
@[go_sem] theorem cl_agg {d l} : clearWith (.c .agg l) d σ = demL d 0 l σ := rfl
@[go_sem] theorem cl_tup {d s l} : clearWith (.c (.tup s) l) d σ = demL d 0 l σ := rfl
@[go_sem] theorem demL_nil {d j} : demL d j [] σ = σ := rfl
@[go_sem] theorem demL_sh {d j f p l} : demL d j (.sh f p :: l) σ = demL d (j + 1) l σ := rfl
@[go_sem] theorem demL_br {d j s o kd lo f es rows l} : demL d j (.br s o kd lo f es rows :: l) σ = demL d (j + 1) l σ := rfl
@[go_sem] theorem demL_dead {d j l} : demL d j (.dead :: l) σ = demL d (j + 1) l σ := rfl
@[go_sem] theorem demL_ow {d j f es rows l} : demL d j (.ow f es rows :: l) σ = demL d (j + 1) l (demote d j σ) := rfl
@[go_sem] theorem demoteAll_zero {s j} : demoteAll s j 0 σ = σ := rfl
@[go_sem] theorem demoteAll_succ {s j n} : demoteAll s j (n + 1) σ = demoteAll s (j + 1) n (if (cellAt σ s j).isOw then demote s j σ else σ) := rfl
@[go_sem] theorem cellAt_eq {s o} : cellAt σ s o = match σ.getD s .undef with
  | .c _ l => l.getD o .dead
  | _ => .dead := rfl
@[go_sem] theorem isOw_sh {f p} : (CV.sh f p).isOw = false := rfl
@[go_sem] theorem isOw_ow {f es rows} : (CV.ow f es rows).isOw = true := rfl
@[go_sem] theorem isOw_br {s o kd lo f es rows} : (CV.br s o kd lo f es rows).isOw = false := rfl
@[go_sem] theorem isOw_dead : CV.dead.isOw = false := rfl
attribute [go_sem] demote move off turn mapSt demC mvC offC turnC epOff epTo SV.cut persist persistAll nest nestAll PV.cv PV.scalar
@[go_sem] theorem mapC_undef {g e} : SV.undef.mapC g e = .undef := rfl
@[go_sem] theorem mapC_c {g e sh l} : (SV.c sh l).mapC g e = .c sh (mapAll g 0 l) := rfl
@[go_sem] theorem mapC_bp {g e s o} : (SV.bp s o).mapC g e = .bp s o := rfl
@[go_sem] theorem mapC_sp {g e fl row f} : (SV.sp fl row f).mapC g e = .sp fl row f := rfl
@[go_sem] theorem mapC_fn {g e i caps} : (SV.fn i caps).mapC g e = .fn i caps := rfl
@[go_sem] theorem mapC_ep {g e s o kd fl es i f row} : (SV.ep s o kd fl es i f row).mapC g e = match e s o with
    | some (s', o') => .ep s' o' kd fl es i f row
    | none => .undef := rfl
attribute [go_sem] asgSV cells? comp extSV lay layP part CV.isDead lendC lendAll ghostsOf isRes noBr CV.flag CV.reflag SV.cells SV.reflag back backC backEp
attribute [go_sem] fieldSV lenSV indexSV charSV sliceSV bound fillSV fillRows srcOf appendSt makeSV guardPt min2 max2 convSV slotOf tidy finish leaveRes resultSV resOf shapeOf weaken settles settle settleBox boxAt boxesAt putBoxes start shiftSV firstId storeSt callSt callIn nodupB
attribute [go_sem] List.getD_cons_zero List.getD_cons_succ List.getD_nil List.set_cons_zero List.set_cons_succ List.map_cons List.map_nil List.length_cons List.length_nil List.nil_append List.cons_append List.append_nil List.replicate_succ List.replicate_zero List.flatMap_cons List.flatMap_nil
attribute [go_sem] List.all_cons List.all_nil List.any_cons List.any_nil List.isEmpty_nil List.isEmpty_cons List.take_zero List.take_succ_cons List.drop_zero List.drop_succ_cons List.take_nil List.drop_nil List.contains_nil List.contains_cons List.range_zero
attribute [go_sem] Option.map_some Option.map_none Option.bind_some Option.bind_none Option.isSome_some Option.isSome_none Option.getD_some Option.getD_none
attribute [go_sem] Bool.or_false Bool.or_true Bool.false_or Bool.true_or Bool.and_false Bool.and_true Bool.false_and Bool.true_and Bool.not_true Bool.not_false Bool.not_not decide_eq_true_eq decide_eq_false_iff_not Bool.false_eq_true Bool.true_eq_false
attribute [go_sem] true_and and_true false_and and_false not_true_eq_false not_false_eq_true ended_normal ended_ret ended_exit List.toArray List.toList_toArray
attribute [go_sem] if_true if_false reduceIte ite_true ite_false eq_self ne_eq
theorem getElem?_arr {α : Type} {l : List α} {i : Nat} : (l.toArray)[i]? = l[i]? := by simp
attribute [go_sem] getElem?_arr List.getElem?_cons_zero List.getElem?_cons_succ List.getElem?_nil

section
variable {t : TypeId}
@[go_sem ↓] theorem callAny_fn {E : Env} {call : CallF} {g : FuncId} {xs : List Operand} {K : Kont (St × SV)} : @Wq _ (callAny E call N ty σ (.func g) xs) K = @Wq _ (some (xs.map (opd E.T N ty σ))) ⟨fun vs => @Bq ((vs.flatMap ghostsOf).isEmpty = true)
    ⟨@Wq _ (lendArgs 0 vs) ⟨fun q => @Wq _ (call g q.1 []) ⟨fun r => @Wq _ (retIn σ q r) K⟩⟩⟩ ⟨@Wq _ (callSt E call N ty σ (.func g) xs) K⟩⟩ := by
  show Wp (callAny E call N ty σ (.func g) xs) K.run = Wp (some (xs.map (opd E.T N ty σ))) fun vs => Br ((vs.flatMap ghostsOf).isEmpty = true) (Wp (lendArgs 0 vs) fun q => Wp (call g q.1 []) fun r => Wp (retIn σ q r) K.run) (Wp (callSt E call N ty σ (.func g) xs) K.run)
  rw [wp_some]
  simp only [callAny, opd_func, wp_ite, wp_bind]
@[go_sem ↓] theorem retIn_q {q : List SV × List (Nat × Nat) × Bool} {r : Ret} {K : Kont (St × SV)} : @Wq _ (retIn σ q r) K = @Bq (r.boxes.length = 0 ∧ isRes r.res = true ∧ r.res.cells.all noBr = true) ⟨@Wq _ (some (r.res.cells.any CV.flag)) ⟨fun fl => @Bq (fl = true) ⟨@Wq _ (some (back [] q.2.1 true σ, r.res.reflag q.2.2)) K⟩ ⟨@Wq _ (some (σ, r.res.reflag q.2.2)) K⟩⟩⟩ ⟨False⟩ := by
  show Wp (retIn σ q r) K.run = Br (r.boxes.length = 0 ∧ isRes r.res = true ∧ r.res.cells.all noBr = true) (Wp (some (r.res.cells.any CV.flag)) fun fl => Br (fl = true) (Wp (some (back [] q.2.1 true σ, r.res.reflag q.2.2)) K.run) (Wp (some (σ, r.res.reflag q.2.2)) K.run)) False
  simp only [retIn, wp_ite, wp_none, wp_some]
  cases r.res.cells.any CV.flag <;> simp [br_true, br_false]
@[go_sem] theorem lendArgs_nil {k} : lendArgs k [] = some ([], [], false) := rfl
@[go_sem] theorem lendArgs_one {k cs l} : lendArgs k (.c .one cs :: l) = (lendAll cs).bind fun r => (lendArgs k l).map fun q => (.c .one r.1 :: q.1, r.2.1 ++ q.2.1, r.2.2 || q.2.2) := rfl
@[go_sem] theorem lendArgs_agg {k cs l} : lendArgs k (.c .agg cs :: l) = (lendAll cs).bind fun r => (lendArgs k l).map fun q => (.c .agg r.1 :: q.1, r.2.1 ++ q.2.1, r.2.2 || q.2.2) := rfl
@[go_sem] theorem lendArgs_bp {k s l} : lendArgs k (.bp s 0 :: l) = (lendArgs (k + 1) l).map fun q => (.bp k 0 :: q.1, q.2) := rfl
@[go_sem] theorem lendArgs_fn {k g caps l} : lendArgs k (.fn g caps :: l) = (lendArgs (k + caps.length) l).map fun q => (.fn g (List.range' k caps.length) :: q.1, q.2) := rfl

/-- Cells as a loaded value. -/
def mkSV (a : Bool) (l : List CV) : SV := .c (if a then .agg else .one) l
@[go_sem] theorem mkSV_true {l} : mkSV true l = .c .agg l := rfl
@[go_sem] theorem mkSV_false {l} : mkSV false l = .c .one l := rfl
def loadBox (a : Bool) (n o s : Nat) (x : SV) : Option SV :=
  match x with
  | .c .box l => (part n o (mapAll (CV.view s) 0 l)).bind fun l => if a || !(l.any CV.isDead) then some (mkSV a l) else none
  | _ => none
@[go_sem] theorem loadBox_box {a n o s l} : loadBox a n o s (.c .box l) = (part n o (mapAll (CV.view s) 0 l)).bind fun l => if a || !(l.any CV.isDead) then some (mkSV a l) else none := rfl
def loadAt (a : Bool) (n : Nat) (σ : St) (x : SV) : Option SV :=
  match x with
  | .bp s o => loadBox a n o s (σ.getD s .undef)
  | .ep s o kd fl es i f row => if f + n ≤ row.length then some (mkSV a (((row.drop f).take n).map fun p => .sh (!p.scalar && fl) p)) else none
  | .sp fl row f => if f + n ≤ row.length then some (mkSV a (((row.drop f).take n).map fun p => .sh (!p.scalar && fl) p)) else none
  | _ => none
@[go_sem] theorem loadAt_bp {a n s o} : loadAt a n σ (.bp s o) = loadBox a n o s (σ.getD s .undef) := rfl
@[go_sem] theorem loadAt_ep {a n s o kd fl es i f row} : loadAt a n σ (.ep s o kd fl es i f row) = if f + n ≤ row.length then some (mkSV a (((row.drop f).take n).map fun p => .sh (!p.scalar && fl) p)) else none := rfl
@[go_sem] theorem loadAt_sp {a n fl row f} : loadAt a n σ (.sp fl row f) = if f + n ≤ row.length then some (mkSV a (((row.drop f).take n).map fun p => .sh (!p.scalar && fl) p)) else none := rfl
@[go_sem ↓] theorem load_q {x : SV} : loadSV T σ t x = (T.sz t).bind fun n => (T.ag t).bind fun a => if a = false ∧ n ≠ 1 then none else loadAt a n σ x := by
  unfold loadSV; congr 1
end
end
end Go.Proofs.Ytlbigobmhglppaa.R
