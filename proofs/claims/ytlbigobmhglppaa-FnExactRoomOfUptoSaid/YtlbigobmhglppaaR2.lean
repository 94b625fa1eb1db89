/- An evaluator of Go functions over plain values: the operations, the code and the calls. -/
import Derived.Test.YtlbigobmhglppaaR1
import Derived.Orders
set_option linter.unusedVariables false
set_option linter.unusedSimpArgs false
namespace Go.Proofs.Ytlbigobmhglppaa.R
open Go

structure Ret where
  res : SV
  boxes : List (List CV)
  deriving Inhabited

abbrev CallF := FuncId → List SV → List (List CV) → Option Ret

/-- A program: its types, its functions, functions that are told by their answers; 'dead': of a function, which slots need not be known where a round of the loop begins whose first region has that number ('D': that of the function that runs). -/
structure Env where
  T : Tys
  fns : FuncId → Option Func
  orc : FuncId → Option (CallF → List SV → List (List CV) → Option Ret)
  dead : FuncId → Nat → List Nat
  D : Nat → List Nat

inductive Ex where
  | normal | exit (id : Nat) | ret
  deriving Inhabited

def lendC : CV → Option (CV × List (Nat × Nat) × Bool)
  | .sh f p => some (.sh (!p.scalar) p, [], !p.scalar && f)
  | .ow f es [] => some (.sh true (.s es []), [], false)
  | .br s o _ _ f es rows => some (.sh true (.s es rows), [(s, o)], f)
  | _ => none

def lendAll : List CV → Option (List CV × List (Nat × Nat) × Bool)
  | [] => some ([], [], false)
  | c :: l => (lendC c).bind fun r => (lendAll l).map fun q => (r.1 :: q.1, r.2.1 ++ q.2.1, r.2.2 || q.2.2)

/-- The variables that an argument hands on by their addresses. -/
def ghostsOf : SV → List Nat
  | .bp s _ => [s]
  | .fn _ caps => caps
  | _ => []

/-- The arguments as the called function has them; what is lent; the flag. k: how many variables are handed on ahead of them. -/
def lendArgs : Nat → List SV → Option (List SV × List (Nat × Nat) × Bool)
  | _, [] => some ([], [], false)
  | k, .c .one cs :: l => (lendAll cs).bind fun r => (lendArgs k l).map fun q => (.c .one r.1 :: q.1, r.2.1 ++ q.2.1, r.2.2 || q.2.2)
  | k, .c .agg cs :: l => (lendAll cs).bind fun r => (lendArgs k l).map fun q => (.c .agg r.1 :: q.1, r.2.1 ++ q.2.1, r.2.2 || q.2.2)
  | k, .bp _ 0 :: l => (lendArgs (k + 1) l).map fun q => (.bp k 0 :: q.1, q.2)
  | k, .fn g caps :: l => (lendArgs (k + caps.length) l).map fun q => (.fn g (List.range' k caps.length) :: q.1, q.2)
  | _, _ => none

/-- The cells of a variable that is handed on by its address: no looks among them. -/
def settle : List CV → St → Option St
  | [], σ => some σ
  | .br s o _ _ _ _ _ :: l, σ => if (cellAt σ s o).isOw then settle l (demote s o σ) else settle l σ
  | _ :: l, σ => settle l σ

def noBr : CV → Bool
  | .br _ _ _ _ _ _ _ => false
  | _ => true

def boxAt (σ : St) (s : Nat) : Option (List CV) :=
  match σ.getD s .undef with
  | .c .box l => some l
  | _ => none

def settleBox (s : Nat) (σ : St) : Option St := (boxAt σ s).bind fun l => settle l σ

def settles : List Nat → St → Option St
  | [], σ => some σ
  | s :: l, σ => (settleBox s σ).bind fun σ => settles l σ

def CV.flag : CV → Bool
  | .sh f p => !p.scalar && f
  | .ow f _ _ => f
  | .br _ _ _ _ f _ _ => f
  | .dead => false
def CV.reflag (f' : Bool) : CV → CV
  | .sh f p => .sh (f && f') p
  | .ow f es rows => .ow (f && f') es rows
  | c => c
def SV.cells : SV → List CV
  | .c _ l => l
  | _ => []
def SV.reflag (f' : Bool) : SV → SV
  | .c sh l => .c sh (l.map (CV.reflag f'))
  | x => x

/-- Behind a call: what looked at a slice of one of the variables gs is gone; what was lent and may be in the answer all may read. -/
def backC (gs : List Nat) (lent : List (Nat × Nat)) (any : Bool) (k j : Nat) : CV → CV
  | .ow f es rows => if any && lent.contains (k, j) then .sh f (.s es rows) else .ow f es rows
  | .br a b kd lo f es rows => if gs.contains a then .dead else if any && lent.contains (a, b) then .sh f (.s es rows) else .br a b kd lo f es rows
  | c => c
def backEp (gs : List Nat) (lent : List (Nat × Nat)) (any : Bool) : EpMap := fun a b => if gs.contains a || (any && lent.contains (a, b)) then none else some (a, b)
def back (gs : List Nat) (lent : List (Nat × Nat)) (any : Bool) (σ : St) : St := mapSt (backC gs lent any) (backEp gs lent any) 0 σ

def putBoxes : List Nat → List (List CV) → St → St
  | s :: l, b :: m, σ => putBoxes l m (σ.set s (.c .box b))
  | _, _, σ => σ

def boxesAt (σ : St) : List Nat → Option (List (List CV))
  | [] => some []
  | s :: l => (boxAt σ s).bind fun b => (boxesAt σ l).map fun m => b :: m

def nodupB : List Nat → Bool
  | [] => true
  | x :: l => !l.contains x && nodupB l

def isRes : SV → Bool
  | .c .one _ => true
  | .c .agg _ => true
  | .c (.tup _) _ => true
  | _ => false

/-- A call of function g (with caps) behind what is lent: the variables gs are settled. -/
def callIn (call : CallF) (σ : St) (g : FuncId) (gs : List Nat) (caps : List Nat) (q : List SV × List (Nat × Nat) × Bool) : Option (St × SV) :=
  (boxesAt σ gs).bind fun bs =>
  if bs.all (·.all noBr) = true ∧ q.2.1.all (fun x => !gs.contains x.1) = true then
  (call g (q.1 ++ (List.range' (gs.length - caps.length) caps.length).map fun j => .bp j 0) bs).bind fun r =>
  if r.boxes.length = bs.length ∧ isRes r.res = true ∧ r.res.cells.all noBr = true ∧ r.boxes.all (·.all noBr) = true then
    let any := r.res.cells.any CV.flag || r.boxes.any (·.any CV.flag)
    let fl := q.2.2 || bs.any (·.any CV.flag)
    some (putBoxes gs (r.boxes.map (·.map (CV.reflag fl))) (back gs q.2.1 any σ), r.res.reflag fl)
  else none
  else none

/-- A call of a Go function. -/
def callSt (E : Env) (call : CallF) (N : Nat) (ty : TypeId) (σ : St) (f : Operand) (xs : List Operand) : Option (St × SV) :=
  match opd E.T N ty σ f with
  | .fn g caps =>
    let gs := (xs.flatMap fun x => ghostsOf (opd E.T N ty σ x)) ++ caps
    if nodupB gs then
      (settles gs σ).bind fun σ => match opd E.T N ty σ f with
        | .fn g' caps' => if g' = g ∧ (xs.flatMap fun x => ghostsOf (opd E.T N ty σ x)) ++ caps' = gs then (lendArgs 0 (xs.map (opd E.T N ty σ))).bind fun q => callIn call σ g gs caps' q else none
        | _ => none
    else none
  | _ => none

/-- The slot of a variable whose address this is. -/
def slotOf : SV → Option Nat
  | .bp s 0 => some s
  | _ => none

/-- An operation that does nothing but answer. -/
def pureOp (E : Env) (call : CallF) (N : Nat) (o : Oper) (σ : St) : Option SV :=
  let ev (x : Operand) : SV := opd E.T N o.type σ x
  match o.op with
  | .move x => some (ev x)
  | .assign x => match ev x with
    | .c .one l => if l.all (fun c => match c with | .sh _ _ => true | _ => false) then some (.c .one l) else none
    | .c .agg l => if l.all (fun c => match c with | .sh _ _ => true | _ => false) then some (.c .agg l) else none
    | .bp s b => some (.bp s b)
    | .fn g caps => some (.fn g caps)
    | _ => none
  | .pick c a b => (ev c).bool?.map fun t => if t then ev a else ev b
  | .binOp op t x y _ => (binSV E.T op t (ev x) (ev y)).map pvSV
  | .unOp op _ x => (unSV op (ev x)).map pvSV
  | .convert s d x => convSV E.T s d (ev x)
  | .fieldAddr t x f => fieldSV E.T t (ev x) f
  | .indexAddr t x i => indexSV E.T t (ev x) (ev i)
  | .index t x i => charSV E.T t (ev x) (ev i)
  | .load t x => loadSV E.T σ t (ev x)
  | .extract x i => match ev x with
    | .c (.tup s) l => comp i s l
    | _ => none
  | .slice t x lo hi none => sliceSV E.T t (ev x) (lo.map ev) (hi.map ev)
  | .nilCheck x => if guardPt (ev x) then some (ev x) else none
  | .build t ps => (E.T.zr t).bind fun z => (E.T.ag t).bind fun a => if a then (fillSV E.T t (ps.toList.map fun p => (p.1, ev p.2)) (z.map (PV.cv false))).map fun l => .c .agg l else none
  | .makeFunc (.func g) first caps => if first.size = 0 then
      (caps.toList.mapM fun x => slotOf (ev x)).map fun l => .fn g l
    else none
  | .makeSlice t n m => (E.T.sl t).bind fun e => (E.T.sz e).bind fun es => (E.T.byt e).bind fun bs => (E.T.zr e).bind fun z =>
      match (ev n).int?, (ev m).int? with
      | some (.i64, n), some (.i64, m) => if n = m ∧ 0 ≤ n ∧ n ≤ LIM ∧ n * bs ≤ LIM ∧ z.length = es then some (.c .one [.ow false es (List.replicate n.toNat z)]) else none
      | _, _ => none
  | .buildSlice t n ps => (E.T.sl t).bind fun e => (E.T.sz e).bind fun es => (E.T.zr e).bind fun z =>
      if n * es ≤ 16777216 ∧ z.length = es then
        (fillRows es (ps.toList.map fun p => (p.1, ev p.2)) false (List.replicate n z) []).map fun r => .c .one [.ow r.2.1 es r.2.2]
      else none
  | .call c =>
    let xs := c.args.toList.map ev
    match c.callee with
    | .builtin .len => match xs, c.argTypes.toList with
      | [x], [t] => lenSV E.T t x
      | _, _ => none
    | .builtin .min => match xs with
      | x :: l => foldSV min2 x l
      | _ => none
    | .builtin .max => match xs with
      | x :: l => foldSV max2 x l
      | _ => none
    | .value f => match ev f with
      | .fn g [] => if (xs.flatMap ghostsOf).isEmpty then (lendArgs 0 xs).bind fun q => (call g q.1 []).bind fun r =>
          if r.boxes.length = 0 ∧ r.res.cells.any CV.flag = false ∧ isRes r.res = true ∧ r.res.cells.all noBr = true then some (r.res.reflag q.2.2) else none
        else none
      | _ => none
    | _ => none
  | _ => none

/-- An operation with an effect: the state behind it, and its value. d: its slot. -/
def effOp (E : Env) (call : CallF) (N : Nat) (o : Oper) (d : Nat) (σ : St) : Option (St × SV) :=
  let ev (x : Operand) : SV := opd E.T N o.type σ x
  match o.op with
  | .assign x => match ev x with
    | .c .one l => (persistAll d 0 l σ).map fun r => (r.1, .c .one r.2)
    | .c .agg l => (persistAll d 0 l σ).map fun r => (r.1, .c .agg r.2)
    | _ => none
  | .alloc t => (E.T.zr t).map fun z => (σ, .c .box (z.map (PV.cv false)))
  | .box t x => (E.T.sz t).bind fun n => (cells? (ev x)).bind fun cs => if cs.length = n then (persistAll d 0 cs σ).map fun r => (r.1, .c .box r.2) else none
  | .buildSlice t n ps => (E.T.sl t).bind fun e => (E.T.sz e).bind fun es => (E.T.zr e).bind fun z =>
      if n * es ≤ 16777216 ∧ z.length = es then
        (fillRows es (ps.toList.map fun p => (p.1, ev p.2)) false (List.replicate n z) σ).map fun r => (r.1, .c .one [.ow r.2.1 es r.2.2])
      else none
  | .call c =>
    let xs := c.args.toList.map ev
    match c.callee with
    | .builtin .append => match xs, c.argTypes.toList with
      | [x, y], [t, u] => if (E.T.sl u).isSome || E.T.str u then appendSt E.T σ d t x y else none
      | _, _ => none
    | .value f => callSt E call N o.type σ f c.args.toList
    | _ => none
  | _ => none

def putSt (d : Option Tmp) (v : SV) (σ : St) : St :=
  match d with
  | some d => σ.set d v
  | none => σ
def clearSt (d : Option Tmp) (σ : St) : St :=
  match d with
  | some d => clear d σ
  | none => σ

def dstOk (N : Nat) : Option Tmp → Bool
  | some d => d < N
  | none => true

def stepOp (E : Env) (call : CallF) (N : Nat) (o : Oper) (σ : St) : Option St :=
  match o.dst with
  | none => match o.op with
    | .store t a x => storeSt E.T N o.type σ t a x
    | _ => none
  | some d => if d < N then
      let σ := clear d σ
      match pureOp E call N o σ with
      | some v => some (σ.set d v)
      | none => (effOp E call N o d σ).map fun r => r.1.set d r.2
    else none

/-- Is the operation carried out? -/
def wantedSt (N : Nat) (ops : Array Oper) (o : Oper) (σ : St) : Option Bool :=
  match o.guard with
  | none => some true
  | some (j, want) => ((ops[j]?).bind (·.dst)).bind fun t => if t < N then (σ.getD t .undef).bool?.map fun b => b == want else none

def runOps (E : Env) (call : CallF) (N : Nat) (ops : Array Oper) : List Nat → St → Option St
  | [], σ => some σ
  | i :: r, σ =>
    match ops[i]? with
    | none => none
    | some o => (wantedSt N ops o σ).bind fun w => (if w then stepOp E call N o σ else if dstOk N o.dst then some (putSt o.dst .undef (clearSt o.dst σ)) else none).bind fun σ => runOps E call N ops r σ

/-- A slot that can be written anew without more. -/
def plain : SV → Bool
  | .undef => true
  | .c .box _ => false
  | .c _ l => l.all fun c => !c.isOw
  | _ => true
def isBox : SV → Bool
  | .c .box _ => true
  | _ => false

def runPure (E : Env) (call : CallF) (N : Nat) (ops : Array Oper) : List Nat → St → Option St
  | [], σ => some σ
  | i :: r, σ =>
    match ops[i]? with
    | none => none
    | some o => (wantedSt N ops o σ).bind fun w => match o.dst with
      | none => none
      | some d => if d < N ∧ plain (σ.getD d .undef) = true then
          (if w then pureOp E call N o σ else some .undef).bind fun v => if isBox v then none else runPure E call N ops r (σ.set d v)
        else none

/-- Does operation x wait for operation j? -/
def waits (x : Oper) (j : Nat) : Bool := x.after.any fun e => Region.binds .any e && e.on == j

/-- No operation of the region meets what another one writes, but in order. -/
def apartOk (ops : Array Oper) : Bool :=
  (List.range ops.size).all fun i => match ops[i]? with
    | none => false
    | some x => x.dst.isSome && (x.after.all fun e => !Region.binds .any e || decide (e.on < i)) && (List.range ops.size).all fun j => i == j || (match ops[j]? with
      | none => false
      | some y => (match y.dst with
        | none => false
        | some d => x.dst != some d && (!(x.looksAt ops).contains d || waits x j || waits y i)))

def iter (f : St → Option (Ex × St)) : Nat → St → Option (Ex × St)
  | 0, _ => none
  | n + 1, σ => (f σ).bind fun r => match r.1 with
    | .normal => iter f n r.2
    | e => some (e, r.2)

/-- The number of a code's first region. -/
def firstId : Code → Nat
  | .region id _ _ => id
  | .seq a _ => firstId a
  | .block _ b => firstId b
  | .loop b => firstId b
  | _ => 0

/-- What is in these slots is not known any more. -/
def tidy (N : Nat) : List Nat → St → St
  | [], σ => σ
  | d :: l, σ => tidy N l (if d < N then (clear d σ).set d .undef else σ)

def runCode (E : Env) (call : CallF) (N n : Nat) : Code → St → Option (Ex × St)
  | .skip, σ => some (.normal, σ)
  | .label _, σ => some (.normal, σ)
  | .region _ ops draw, σ =>
    if draw then (if apartOk ops then (runPure E call N ops (List.range ops.size) σ).map fun σ => (.normal, σ) else none)
    else (runOps E call N ops (List.range ops.size) σ).map fun σ => (.normal, σ)
  | .seq a b, σ => (runCode E call N n a σ).bind fun r => match r.1 with
    | .normal => runCode E call N n b r.2
    | e => some (e, r.2)
  | .cond c t e, σ => (opd E.T N 0 σ c).bool?.bind fun x => if x then runCode E call N n t σ else runCode E call N n e σ
  | .block id b, σ => (runCode E call N n b σ).map fun r => match r.1 with
    | .exit i => if i = id then (.normal, r.2) else r
    | _ => r
  | .loop b, σ => iter (fun σ => runCode E call N n b (tidy N (E.D (firstId b)) σ)) n σ
  | .exit id, σ => some (.exit id, σ)
  | .ret, σ => some (.ret, σ)
  | _, _ => none

/-- A result's cells leave the call: what a look's owner owns goes with it. -/
def weaken (N : Nat) : CV → CV
  | .br s o kd lo f es rows => .br s o (if s < N ∧ kd ≤ 1 then 1 else 2) lo f es rows
  | c => c

def resultSV (T : Tys) (N : Nat) (σ : St) : ResultVar → Option SV
  | .tmp t => some (opd T N 0 σ (.tmp t))
  | .cell a t => loadSV T σ t (opd T N 0 σ (.tmp a))

/-- One result: its cells, and whether it is a struct. -/
def resOf : SV → Option (Bool × List CV)
  | .c .one l => some (false, l)
  | .c .agg l => some (true, l)
  | _ => none

/-- The results, laid down from place j of slot d on. -/
def leaveRes (T : Tys) (N d : Nat) : Nat → List ResultVar → St → Option (St × List (Bool × Nat) × List CV)
  | _, [], σ => some (σ, [], [])
  | j, x :: r, σ => (resultSV T N σ x).bind fun v => (resOf v).bind fun vs => (persistAll d j (vs.2.map (weaken N)) σ).bind fun q =>
        (leaveRes T N d (j + vs.2.length) r q.1).map fun (z : St × List (Bool × Nat) × List CV) => (z.1, (vs.1, vs.2.length) :: z.2.1, q.2 ++ z.2.2)

def shapeOf : List (Bool × Nat) → Shape
  | [(false, _)] => .one
  | [(true, _)] => .agg
  | l => .tup l

/-- The call's own slots for what it is handed. -/
def shiftSV (N : Nat) : SV → SV
  | .bp g o => .bp (N + g) o
  | .fn g caps => .fn g (caps.map (N + ·))
  | x => x

def pcall (E : Env) : Nat → CallF
  | 0 => fun _ _ _ => none
  | n + 1 => fun f args bs =>
    match E.orc f with
    | some g => g (pcall E n) args bs
    | none => (E.fns f).bind fun fn => fn.body.bind fun code =>
      if args.length ≤ fn.ntmps then
        (runCode { E with D := E.dead f } (pcall E n) fn.ntmps n code (args.map (shiftSV fn.ntmps) ++ List.replicate (fn.ntmps - args.length) .undef ++ bs.map (.c .box))).bind fun r =>
        match r.1 with
        | .exit _ => none
        | _ => (leaveRes E.T fn.ntmps r.2.length 0 fn.results.toList r.2).bind fun q =>
          (settles ((List.range bs.length).map (fn.ntmps + ·)) q.1).bind fun σ =>
          (boxesAt σ ((List.range bs.length).map (fn.ntmps + ·))).bind fun m =>
            if m.all (·.all noBr) then some ⟨.c (shapeOf q.2.1) q.2.2, m⟩ else none
      else none

end Go.Proofs.Ytlbigobmhglppaa.R
