/- Walking the evaluator: what has to hold before, so that a condition holds behind; laws for simp, one for each form of code and of operation. -/
import Derived.IntWalk
import Derived.Laws.Strings
import Derived.Test.YtblelojdboefjaaGreatDoorQ0
import Derived.Test.YtblelojdboefjaaGreatDoorQ2
set_option linter.all false
namespace Go.Proofs.YtblelojdboefjaaGreatDoor.R
open Go
def Wp {α:Type} (x:Option α) (K:α→Prop):Prop:=∃r,x=some r∧K r
def Br (c:Prop) (A B:Prop):Prop:=(c→A)∧(¬c→B)
section
variable {α β:Type}
@[congr] theorem AAWz {x y:Option α} {K:α→Prop} (h:x=y):Wp x K=Wp y K:=by rw[h]
@[congr] theorem ACSz {c d:Prop} {A B:Prop} (h:c=d):Br c A B=Br d A B:=by rw[h]
@[simp] theorem Chz {A B:Prop}:Br True A B=A:=by simp[Br]
@[simp] theorem Hoz {A B:Prop}:Br False A B=B:=by simp[Br]
theorem Xgz {c A B:Prop} (h:c) (h1:A):Br c A B:=⟨fun _=>h1,fun h'=>(h' h).elim⟩
theorem Xhz {c A B:Prop} (h:¬c) (h1:B):Br c A B:=⟨fun h'=>(h h').elim,fun _=>h1⟩
@[simp] theorem Agz {a:α} {K:α→Prop}:Wp (some a) K=K a:=by simp[Wp]
@[simp] theorem C0z {K:α→Prop}:Wp (none:Option α) K=False:=by simp[Wp]
@[simp↓] theorem CJz {x:Option α} {g:α→Option β} {K:β→Prop}:Wp (x.bind g) K=Wp x fun r=>Wp (g r) K:=by
 cases x<;>simp
@[simp↓] theorem B3z {x:Option α} {g:α→β} {K:β→Prop}:Wp (x.map g) K=Wp x fun r=>K (g r):=by
 cases x<;>simp
@[simp↓] theorem DNz {c:Prop} [Decidable c] {x y:Option α} {K:α→Prop}:Wp (if c then x else y) K=Br c (Wp x K) (Wp y K):=by
 unfold Br;by_cases h:c<;>simp[h]
theorem Wp.mono {x:Option α} {K L:α→Prop} (h:Wp x K) (hk:∀r,K r→L r):Wp x L:=by
 obtain⟨r,h1,h2⟩:=h;exact⟨r,h1,hk r h2⟩
theorem YZz {x:Option α} {r:α} {K:α→Prop} (h:x=some r) (hk:K r):Wp x K:=⟨r,h,hk⟩
theorem Yaz {x:Option α} {r:α} (h:Wp x (· =r)):x=some r:=by
 obtain⟨_,h1,h2⟩:=h;rw[h1,h2]
end
def cont (k:St→Prop) (K:Ex×St→Prop):Ex×St→Prop
 |(.normal,σ)=>k σ
 |(.exit i,σ)=>K (.exit i,σ)
 |(.ret,σ)=>K (.ret,σ)
@[simp] theorem PHz {k K σ}:cont k K (.normal,σ)=k σ:=rfl
@[simp] theorem Syz {k K i σ}:cont k K (.exit i,σ)=K (.exit i,σ):=rfl
@[simp] theorem Ufz {k K σ}:cont k K (.ret,σ)=K (.ret,σ):=rfl
def blk (id:Nat) (K:Ex×St→Prop):Ex×St→Prop
 |(.normal,σ)=>K (.normal,σ)
 |(.exit i,σ)=>if i=id then K (.normal,σ)else K (.exit i,σ)
 |(.ret,σ)=>K (.ret,σ)
@[simp] theorem RFz {i K σ}:blk i K (.normal,σ)=K (.normal,σ):=rfl
@[simp] theorem WBz {i K σ}:blk i K (.ret,σ)=K (.ret,σ):=rfl
section
variable {E:Env} {call:CallF} {N n:Nat} {σ:St} {K:Ex×St→Prop}
@[simp↓] theorem wp_skip:Wp (AGz E call N n .skip σ) K=Wp (some σ) fun σ=>K (.normal,σ):=by simp[AGz]
@[simp↓] theorem wp_label {l}:Wp (AGz E call N n (.label l) σ) K=Wp (some σ) fun σ=>K (.normal,σ):=by simp[AGz]
@[simp↓] theorem wp_exit {i}:Wp (AGz E call N n (.exit i) σ) K=Wp (some σ) fun σ=>K (.exit i,σ):=by simp[AGz]
@[simp↓] theorem wp_ret:Wp (AGz E call N n .ret σ) K=Wp (some σ) fun σ=>K (.ret,σ):=by simp[AGz]
@[simp↓] theorem wp_seq {a b:Code}:Wp (AGz E call N n (.seq a b) σ) K=Wp (AGz E call N n a σ) (cont (fun σ=>Wp (AGz E call N n b σ) K) K):=by
 simp only[AGz,CJz]
 congr 1;funext ⟨e,σ⟩
 cases e<;>simp[cont]
@[simp↓] theorem wp_cond {c:Operand} {t e:Code}:Wp (AGz E call N n (.cond c t e) σ) K=Wp (some σ) fun σ=>Wp (opd E.T N 0 σ c).bool? fun x=>Br (x=true) (Wp (AGz E call N n t σ) K) (Wp (AGz E call N n e σ) K):=by
 simp only[AGz,CJz,DNz,Agz]
@[simp↓] theorem wp_block {id:Nat} {b:Code}:Wp (AGz E call N n (.block id b) σ) K=Wp (AGz E call N n b σ) (blk id K):=by
 simp only[AGz,B3z]
 congr 1;funext ⟨e,σ⟩
 cases e with
 |exit i=>simp only[blk];split<;>rfl
 |_=>simp[blk]
def runL (E:Env) (call:CallF) (N:Nat) (ops:Array Oper):List Oper→St→Option St
 |[],σ=>some σ
 |o::r,σ=>(Asz N ops o σ).bind fun w=>(if w then AJz E call N o σ else if Kyz N o.dst then some (Mdz o.dst skipSV (I4z o.dst σ))else none).bind fun σ=>runL E call N ops r σ
theorem Gqz {ops:Array Oper}:∀(r:List Oper) (k:Nat) (σ:St),ops.toList.drop k=r→AYz E call N ops (List.range' k r.length) σ=runL E call N ops r σ
 |[],k,σ,h=>by simp[AYz,runL]
 |o::r,k,σ,h=>by
  have hk:ops.toList[k]? =some o:=by
   have:=congrArg (fun l=>l[0]?) h
   simpa[List.getElem?_drop]using this
  have hd:ops.toList.drop (k+1)=r:=by
   have:=congrArg List.tail h
   simpa[List.tail_drop]using this
  simp only[List.length_cons,List.range'_succ,AYz,runL]
  rw[show ops[k]? =some o by simpa using hk]
  simp only
  congr 1;funext w
  congr 1;funext σ'
  exact Gqz r (k+1) σ' hd
@[simp↓] theorem wp_region {id:Nat} {ops:Array Oper}:Wp (AGz E call N n (.region id ops false) σ) K=Wp (runL E call N ops ops.toList σ) fun σ=>K (.normal,σ):=by
 simp only[AGz,Bool.false_eq_true,if_false,B3z]
 rw[List.range_eq_range',←Gqz ops.toList 0 σ rfl]
 simp
variable {L:St→Prop}
@[simp↓] theorem Wiz {ops:Array Oper}:Wp (runL E call N ops [] σ) L=Wp (some σ) L:=rfl
@[simp↓] theorem VEz {ops:Array Oper} {d:Option Tmp} {op:Op} {ty:TypeId} {ps:String} {af:Array Edge} {r:List Oper}:
  Wp (runL E call N ops (⟨d,op,ty,ps,af,none⟩::r) σ) L=Wp (AJz E call N ⟨d,op,ty,ps,af,none⟩ σ) fun σ=>Wp (runL E call N ops r σ) L:=by
 simp[runL,Asz]
@[simp↓] theorem MVz {ops:Array Oper} {d:Tmp} {op:Op} {ty:TypeId} {ps:String} {af:Array Edge} {j:Nat} {want:Bool} {r:List Oper}:
  Wp (runL E call N ops (⟨some d,op,ty,ps,af,some (j,want)⟩::r) σ) L=Wp (some σ) fun σ=>Wp ((ops[j]?).bind (·.dst)) fun t=>Br (t<N∧d<N) (Wp (gval (σ.getD t .undef)) fun b=>
   Br (b=some want) (Wp (AJz E call N ⟨some d,op,ty,ps,af,some (j,want)⟩ σ) fun σ=>Wp (runL E call N ops r σ) L) (Wp (some ((clear d σ).set d skipSV)) fun σ=>Wp (runL E call N ops r σ) L)) False:=by
 have e:runL E call N ops (⟨some d,op,ty,ps,af,some (j,want)⟩::r) σ=(((ops[j]?).bind (·.dst)).bind fun t=>if t<N then(gval (σ.getD t .undef)).map fun b=>b==some want else none).bind fun w=>
   (if w=true then AJz E call N ⟨some d,op,ty,ps,af,some (j,want)⟩ σ else if d<N then some ((clear d σ).set d skipSV)else none).bind fun σ=>runL E call N ops r σ:=by
  simp only[runL,Asz,Kyz,Mdz,I4z,decide_eq_true_eq]
 rw[e,Agz]
 have hs:¬d<N→AJz E call N ⟨some d,op,ty,ps,af,some (j,want)⟩ σ=none:=fun h=>by simp[AJz,h]
 generalize AJz E call N ⟨some d,op,ty,ps,af,some (j,want)⟩ σ=so at hs e ⊢
 generalize(ops[j]?).bind (·.dst)=ot
 cases ot with
 |none=>simp
 |some t=>
  by_cases ht:t<N
  ·by_cases hd:d<N
   ·simp only[Option.bind_some,ht,hd,if_true,and_self,Chz,B3z,CJz,Agz]
    congr 1;funext b
    by_cases hb:b=some want
    ·simp[hb]
    ·simp[hb]
   ·have hf:(t<N∧d<N)=False:=by simp[hd]
    simp only[hf,Hoz,CJz,Agz,ht,hd,hs hd,if_true,if_false,B3z,ite_self,C0z]
    simp[Wp]
  ·simp[ht,Br]
end
end Go.Proofs.YtblelojdboefjaaGreatDoor.R
namespace Go.Proofs.YtblelojdboefjaaGreatDoor.R
open Go
section
variable {E:Env} {call:CallF} {N:Nat} {σ:St} {L:St→Prop} {d:Tmp} {ty:TypeId} {ps:String} {af:Array Edge} {gd:Option (Nat×Bool)}
def F5z:Op→Bool
 | .assign _| .alloc _| .box _ _| .buildSlice _ _ _| .call _| .store _ _ _=>false
 |_=>true
theorem UZz {op:Op} (h:F5z op=true):Cyz E call N ⟨some d,op,ty,ps,af,gd⟩ d σ=none:=by
 cases op<;>first|rfl|simp[F5z]at h
theorem Sdz {op:Op} (h:F5z op=true):BLz d op σ=σ:=by
 cases op<;>first|rfl|simp[F5z]at h
theorem B5z {op:Op} (h:F5z op=true):Wp (AJz E call N ⟨some d,op,ty,ps,af,gd⟩ σ) L=
  Br (d<N) (Wp (some (clear d σ)) fun σ=>Wp (ALz E call N ⟨some d,op,ty,ps,af,gd⟩ σ) fun v=>Wp (some (σ.set d v)) L) False:=by
 by_cases hd:d<N
 ·simp only[AJz,hd,if_true,Chz,Agz,Sdz h]
  cases hp:ALz E call N ⟨some d,op,ty,ps,af,gd⟩ (clear d σ)with
  |some v=>simp
  |none=>simp[UZz h]
 ·simp[AJz,hd,Br]
@[simp↓] theorem VAz {x}:Wp (AJz E call N ⟨some d,.move x,ty,ps,af,gd⟩ σ) L=Br (d<N) (Wp (some (clear d σ)) fun σ=>Wp (some (σ.set d (opd E.T N ty σ x))) L) False:=by
 rw[B5z rfl];simp[ALz]
@[simp↓] theorem U9z {c a b}:Wp (AJz E call N ⟨some d,.pick c a b,ty,ps,af,gd⟩ σ) L=Br (d<N) (Wp (some (clear d σ)) fun σ=>Wp (opd E.T N ty σ c).bool? fun t=>Wp (some (σ.set d (if t then opd E.T N ty σ a else opd E.T N ty σ b))) L) False:=by
 rw[B5z rfl];simp only[ALz,B3z]
@[simp↓] theorem Wnz {op t x y u}:Wp (AJz E call N ⟨some d,.binOp op t x y u,ty,ps,af,gd⟩ σ) L=Br (d<N) (Wp (some (clear d σ)) fun σ=>Wp (A7z E.T op t (opd E.T N ty σ x) (opd E.T N ty σ y)) fun v=>Wp (some (σ.set d (pvSV v))) L) False:=by
 rw[B5z rfl];simp only[ALz,B3z]
@[simp↓] theorem YYz {op t x}:Wp (AJz E call N ⟨some d,.unOp op t x,ty,ps,af,gd⟩ σ) L=Br (d<N) (Wp (some (clear d σ)) fun σ=>Wp (unSV op (opd E.T N ty σ x)) fun v=>Wp (some (σ.set d (pvSV v))) L) False:=by
 rw[B5z rfl];simp only[ALz,B3z]
@[simp↓] theorem VDz {s t x}:Wp (AJz E call N ⟨some d,.convert s t x,ty,ps,af,gd⟩ σ) L=Br (d<N) (Wp (some (clear d σ)) fun σ=>Wp (GEz E.T s t (opd E.T N ty σ x)) fun v=>Wp (some (σ.set d v)) L) False:=by
 rw[B5z rfl];rfl
@[simp↓] theorem Mmz {t x f}:Wp (AJz E call N ⟨some d,.fieldAddr t x f,ty,ps,af,gd⟩ σ) L=Br (d<N) (Wp (some (clear d σ)) fun σ=>Wp (EWz E.T t (opd E.T N ty σ x) f) fun v=>Wp (some (σ.set d v)) L) False:=by
 rw[B5z rfl];rfl
@[simp↓] theorem Mlz {t x i}:Wp (AJz E call N ⟨some d,.indexAddr t x i,ty,ps,af,gd⟩ σ) L=Br (d<N) (Wp (some (clear d σ)) fun σ=>Wp (E3z E.T t (opd E.T N ty σ x) (opd E.T N ty σ i)) fun v=>Wp (some (σ.set d v)) L) False:=by
 rw[B5z rfl];rfl
@[simp↓] theorem TOz {t x i}:Wp (AJz E call N ⟨some d,.index t x i,ty,ps,af,gd⟩ σ) L=Br (d<N) (Wp (some (clear d σ)) fun σ=>Wp (GFz E.T t (opd E.T N ty σ x) (opd E.T N ty σ i)) fun v=>Wp (some (σ.set d v)) L) False:=by
 rw[B5z rfl];rfl
@[simp↓] theorem VCz {t x}:Wp (AJz E call N ⟨some d,.load t x,ty,ps,af,gd⟩ σ) L=Br (d<N) (Wp (some (clear d σ)) fun σ=>Wp (C4z E.T σ t (opd E.T N ty σ x)) fun v=>Wp (some (σ.set d v)) L) False:=by
 rw[B5z rfl];rfl
def Mhz (v:SV) (i:Nat):Option SV:=
 match v with
 | .c (.tup s) l=>comp i s l
 |_=>none
@[simp↓] theorem QAz {x i}:Wp (AJz E call N ⟨some d,.extract x i,ty,ps,af,gd⟩ σ) L=Br (d<N) (Wp (some (clear d σ)) fun σ=>Wp (Mhz (opd E.T N ty σ x) i) fun v=>Wp (some (σ.set d v)) L) False:=by
 rw[B5z rfl];rfl
@[simp↓] theorem TMz {t x lo hi}:Wp (AJz E call N ⟨some d,.slice t x lo hi none,ty,ps,af,gd⟩ σ) L=Br (d<N) (Wp (some (clear d σ)) fun σ=>Wp (Ewz E.T t (opd E.T N ty σ x) (lo.map (opd E.T N ty σ)) (hi.map (opd E.T N ty σ))) fun v=>Wp (some (σ.set d v)) L) False:=by
 rw[B5z rfl];rfl
@[simp↓] theorem Olz {x}:Wp (AJz E call N ⟨some d,.nilCheck x,ty,ps,af,gd⟩ σ) L=Br (d<N) (Wp (some (clear d σ)) fun σ=>Br (EVz (opd E.T N ty σ x)=true) (Wp (some (σ.set d (opd E.T N ty σ x))) L) False) False:=by
 rw[B5z rfl]
 congr 1;congr 1;funext σ
 simp only[ALz,DNz,Agz,C0z]
@[simp↓] theorem TQz {t ps'}:Wp (AJz E call N ⟨some d,.build t ps',ty,ps,af,gd⟩ σ) L=Br (d<N) (Wp (some (clear d σ)) fun σ=>Wp (E.T.zr t) fun z=>Wp (E.T.ag t) fun a=>Br (a=true) (Wp (Dkz E.T t (ps'.toList.map fun p=>(p.1,opd E.T N ty σ p.2)) (z.map (PV.cv false))) fun l=>Wp (some (σ.set d (.c .agg l))) L) False) False:=by
 rw[B5z rfl]
 congr 1;congr 1;funext σ
 simp only[ALz,CJz,DNz,Agz,C0z,B3z]
@[simp↓] theorem Omz {g caps}:Wp (AJz E call N ⟨some d,.makeFunc (.func g) #[] caps,ty,ps,af,gd⟩ σ) L=Br (d<N) (Wp (some (clear d σ)) fun σ=>Wp (caps.toList.mapM fun x=>FGz (opd E.T N ty σ x)) fun l=>Wp (some (σ.set d (.fn g l))) L) False:=by
 rw[B5z rfl]
 congr 1;congr 1;funext σ
 simp[ALz]
def KZz (T:Tys) (t:TypeId) (n m:SV):Option SV:=(T.sl t).bind fun e=>(T.sz e).bind fun es=>(T.byt e).bind fun bs=>(T.zr e).bind fun z=>
   match n.int?,m.int? with
   |some (.i64,n),some (.i64,m)=>if n=m∧0≤n∧n≤LIM∧n*bs≤LIM∧z.length=es then some (.c .one [.ow false es (List.replicate n.toNat (if T.mo then z.map PV.zo else z))])else none
   |_,_=>none
@[simp↓] theorem Mkz {t n m}:Wp (AJz E call N ⟨some d,.makeSlice t n m,ty,ps,af,gd⟩ σ) L=Br (d<N) (Wp (some (clear d σ)) fun σ=>Wp (KZz E.T t (opd E.T N ty σ n) (opd E.T N ty σ m)) fun v=>Wp (some (σ.set d v)) L) False:=by
 rw[B5z rfl];rfl
def kpOf (T:Tys) (N:Nat):Option Nat:=if T.mo then some N else none
def Fpz (kp:Option Nat) (d:Nat) (v:SV) (σ:St):Option (St×SV):=
 match v with
 | .c .one l=>(ATz kp d 0 l σ).map fun r=>(r.1,.c .one r.2)
 | .c .agg l=>(ATz kp d 0 l σ).map fun r=>(r.1,.c .agg r.2)
 | .bp s b=>some (σ,.bp s b)
 | .fn g caps=>some (σ,.fn g caps)
 |_=>none
def asgP (v:SV):Option SV:=match v with
   | .c .one l=>if l.all (fun c=>match c with| .sh _ _=>true|_=>false)then some (.c .one l)else none
   | .c .agg l=>if l.all (fun c=>match c with| .sh _ _=>true|_=>false)then some (.c .agg l)else none
   | .bp s b=>some (.bp s b)
   | .fn g caps=>some (.fn g caps)
   |_=>none
def asgE (kp:Option Nat) (d:Nat) (v:SV) (σ:St):Option (St×SV):=match v with
   | .c .one l=>(ATz kp d 0 l σ).map fun r=>(r.1,.c .one r.2)
   | .c .agg l=>(ATz kp d 0 l σ).map fun r=>(r.1,.c .agg r.2)
   |_=>none
theorem FXz {kp:Option Nat} {d:Nat}:∀(l:List CV) (j:Nat) (σ:St),(l.all fun c=>match c with| .sh _ _=>true|_=>false)=true→ATz kp d j l σ=some (σ,l)
 |[],j,σ,h=>rfl
 |c::l,j,σ,h=>by
  simp only[List.all_cons,Bool.and_eq_true]at h
  cases c<;>simp at h
  simp[ATz,persist,Dgz,FXz l (j+1) σ (by simpa using h)]
@[simp↓] theorem RKz {x}:Wp (AJz E call N ⟨some d,.assign x,ty,ps,af,gd⟩ σ) L=Br (d<N) (Wp (some (clear d (BLz d (.assign x) σ))) fun σ=>Wp (Fpz (kpOf E.T N) d (opd E.T N ty σ x) σ) fun r=>Wp (some (r.1.set d r.2)) L) False:=by
 by_cases hd:d<N
 ·simp only[AJz,hd,if_true,Chz,Agz]
  generalize BLz d (.assign x) σ=σ
  generalize hv:opd E.T N ty (clear d σ) x=v
  have hp:ALz E call N ⟨some d,.assign x,ty,ps,af,gd⟩ (clear d σ)=asgP v:=by rw[←hv];rfl
  have he:Cyz E call N ⟨some d,.assign x,ty,ps,af,gd⟩ d (clear d σ)=asgE (kpOf E.T N) d v (clear d σ):=by rw[←hv];rfl
  rw[hp,he]
  cases v with
  |c sh l=>
   cases sh with
   |one=>
    by_cases hs:(l.all fun c=>match c with| .sh _ _=>true|_=>false)=true
    ·simp only[asgP,hs,if_true,Fpz,FXz l 0 _ hs,Option.map_some,Agz]
    ·simp only[asgP,asgE,hs,if_false,Fpz,B3z,Bool.false_eq_true,Agz,Function.comp_def]
   |agg=>
    by_cases hs:(l.all fun c=>match c with| .sh _ _=>true|_=>false)=true
    ·simp only[asgP,hs,if_true,Fpz,FXz l 0 _ hs,Option.map_some,Agz]
    ·simp only[asgP,asgE,hs,if_false,Fpz,B3z,Bool.false_eq_true,Agz,Function.comp_def]
   |_=>simp[Fpz,asgP,asgE]
  |_=>simp[Fpz,asgP,asgE]
 ·simp[AJz,hd,Br]
@[simp↓] theorem TRz {t}:Wp (AJz E call N ⟨some d,.alloc t,ty,ps,af,gd⟩ σ) L=Br (d<N) (Wp (some (clear d σ)) fun σ=>Wp (E.T.zr t) fun z=>Wp (some (σ.set d (.c .box (z.map (PV.cv false))))) L) False:=by
 by_cases hd:d<N
 ·simp[AJz,hd,ALz,Cyz,BLz,kpOf]
 ·simp[AJz,hd,Br]
@[simp↓] theorem Wmz {t x}:Wp (AJz E call N ⟨some d,.box t x,ty,ps,af,gd⟩ σ) L=Br (d<N) (Wp (some (clear d σ)) fun σ=>Wp (E.T.sz t) fun n=>Wp (cells? (opd E.T N ty σ x)) fun cs=>Br (cs.length=n) (Wp (ATz (kpOf E.T N) d 0 cs σ) fun r=>Wp (some (r.1.set d (.c .box r.2))) L) False) False:=by
 by_cases hd:d<N
 ·simp[AJz,hd,ALz,Cyz,BLz,kpOf]
 ·simp[AJz,hd,Br]
@[simp↓] theorem AAXz {x:Operand} {t:TypeId}:Wp (AJz E call N ⟨none,.call ⟨.builtin .clear,#[x],#[t]⟩,ty,ps,af,gd⟩ σ) L=Wp (H0z E.T σ t (opd E.T N ty σ x)) L:=rfl
@[simp↓] theorem TLz {t a x}:Wp (AJz E call N ⟨none,.store t a x,ty,ps,af,gd⟩ σ) L=Wp (Fqz E.T N ty σ t a x) L:=rfl
end
end Go.Proofs.YtblelojdboefjaaGreatDoor.R
namespace Go.Proofs.YtblelojdboefjaaGreatDoor.R
open Go
def Dsz (σ:St) (q:List SV×List (Nat×Nat)×Bool) (r:Ret):Option (St×SV):=
 if r.boxes.length=0∧CSz r.res=true∧r.res.cells.all noBr=true then
  some (if r.res.cells.any CV.flag then back [] q.2.1 true σ else σ,r.res.reflag q.2.2)else none
def Fdz {α β:Type} (o:Option α) (a:α→β) (b:β):β:=
 match o with
 |some h=>a h
 |none=>b
def HBz (E:Env) (call:CallF) (N:Nat) (ty:TypeId) (d:Nat) (σ:St) (f:Operand) (xs:List Operand):Option (St×SV):=
 match opd E.T N ty σ f with
 | .fn g []=>Fdz (E.T.so g) (fun h=>h d σ (xs.map (opd E.T N ty σ))) (if((xs.map (opd E.T N ty σ)).flatMap Ajz).isEmpty then(Aaz 0 (xs.map (opd E.T N ty σ))).bind fun q=>(call g q.1 []).bind fun r=>Dsz σ q r
   else Bsz E call N ty d σ f xs)
 |_=>Bsz E call N ty d σ f xs
theorem JPz {g:Nat→CV→CV} (h:∀j c,g j c=c):∀(j:Nat) (l:List CV),Acz g j l=l
 |_,[]=>rfl
 |j,c::l=>by rw[Acz,h,JPz h]
theorem Vhz {g:Nat→CV→CV} {e:EpMap} (h:∀j c,g j c=c) (he:∀a b q,e a b q=some (a,b,q)) (x:SV):x.mapC g e=x:=by
 cases x with
 |c sh l=>simp only[SV.mapC,JPz h]
 |ep s o q kd fl es i f row=>simp[SV.mapC,he]
 |_=>rfl
theorem HWz {g:Nat→Nat→CV→CV} {e:EpMap} (h:∀k j c,g k j c=c) (he:∀a b q,e a b q=some (a,b,q)):∀(k:Nat) (σ:St),Afz g e k σ=σ
 |_,[]=>rfl
 |k,x::l=>by rw[Afz,Vhz (h k) he,HWz h he]
theorem OXz (l:List (Nat×Nat)) (σ:St) (h:(true&& !l.isEmpty)=false):back [] l true σ=σ:=by
 have:l=[]:=by simpa using h
 subst this
 exact HWz (fun k j c=>by cases c<;>simp[COz]) (fun a b q=>by simp[EFz]) 0 σ
theorem S7z (l:List (Nat×Nat)) (σ:St):back [] l false σ=σ:=by
 refine HWz (fun k j c=> ?_) (fun a b q=> ?_) 0 σ
 ·cases c<;>simp[COz]
 ·simp[EFz]
section
variable {E:Env} {call:CallF} {N:Nat} {σ:St} {L:St→Prop} {d:Tmp} {ty:TypeId} {ps:String} {af:Array Edge} {gd:Option (Nat×Bool)}
theorem ORz {f:Operand} {xs:List Operand} {g:FuncId} (hf:opd E.T N ty σ f= .fn g []) (hso:E.T.so g=none) (hg:(xs.map (opd E.T N ty σ)).flatMap Ajz=[]):
  Bsz E call N ty d σ f xs=(Aaz 0 (xs.map (opd E.T N ty σ))).bind fun q=>(call g q.1 []).bind fun r=>Dsz σ q r:=by
 have hg':(xs.flatMap fun x=>Ajz (opd E.T N ty σ x))=[]:=by
  rw[←hg,List.flatMap_map]
 unfold Bsz
 simp only[hf,hso,hg',List.append_nil,Ckz,settles,Option.bind_some,if_true,and_self]
 congr 1;funext q
 unfold FWz
 simp only[Bwz,Option.bind_some,List.length_nil,Nat.sub_self,List.range'_zero,List.map_nil,List.append_nil]
 rw[if_pos ⟨rfl,by simp⟩]
 congr 1;funext r
 unfold Dsz
 by_cases h:r.boxes.length=0∧CSz r.res=true∧r.res.cells.all noBr=true
 ·have hb:r.boxes=[]:=List.length_eq_zero_iff.1 h.1
  have h':=h.2.2
  simp only[List.all_eq_true]at h'
  simp only[hb,h.2.1,h.2.2,h',List.length_nil,List.all_nil,List.not_mem_nil,false_implies,implies_true,and_self,if_true,List.any_nil,Bool.or_false,List.map_nil,BPz]
  by_cases ha:r.res.cells.any CV.flag=true
  ·simp[ha]
  ·simp[ha,S7z]
 ·rw[if_neg h,if_neg]
  rintro⟨h1,h2,h3,h4⟩
  exact h ⟨h1,h2,by simpa using h3⟩
@[simp↓] theorem VFz {f:Operand} {xs:Array Operand} {tys:Array TypeId}:Wp (AJz E call N ⟨some d,.call ⟨.value f,xs,tys⟩,ty,ps,af,gd⟩ σ) L=
  Br (d<N) (Wp (some (clear d σ)) fun σ=>Wp (HBz E call N ty d σ f xs.toList) fun r=>Wp (some (r.1.set d r.2)) L) False:=by
 by_cases hd:d<N
 ·simp only[AJz,hd,if_true,Chz,Agz,BLz]
  have he:Cyz E call N ⟨some d,.call ⟨.value f,xs,tys⟩,ty,ps,af,gd⟩ d (clear d σ)=Bsz E call N ty d (clear d σ) f xs.toList:=rfl
  have hp:ALz E call N ⟨some d,.call ⟨.value f,xs,tys⟩,ty,ps,af,gd⟩ (clear d σ)=match opd E.T N ty (clear d σ) f with
   | .fn g []=>if(E.T.so g).isSome then none else if((xs.toList.map (opd E.T N ty (clear d σ))).flatMap Ajz).isEmpty then(Aaz 0 (xs.toList.map (opd E.T N ty (clear d σ)))).bind fun q=>(call g q.1 []).bind fun r=>
     if r.boxes.length=0∧(r.res.cells.any CV.flag&& !q.2.1.isEmpty)=false∧CSz r.res=true∧r.res.cells.all noBr=true then some (r.res.reflag q.2.2)else none
    else none
   |_=>none:=rfl
  generalize clear d σ=τ at he hp ⊢
  rw[he,hp]
  have key:∀g,opd E.T N ty τ f= .fn g []→E.T.so g=none→((xs.toList.map (opd E.T N ty τ)).flatMap Ajz).isEmpty=true→_:=fun g h1 h0 h2=>ORz (call:=call) (d:=d) h1 h0 (List.isEmpty_iff.1 h2)
  unfold HBz
  cases hf:opd E.T N ty τ f with
  |fn g caps=>
   cases caps with
   |nil=>
    cases hso:E.T.so g with
    |some h=>
     have:Bsz E call N ty d τ f xs.toList=h d τ (xs.toList.map (opd E.T N ty τ)):=by
      unfold Bsz
      simp only[hf,hso,if_true]
     simp only[hso,Option.isSome_some,if_true,Fdz,this]
     simp
    |none=>
    simp only[hso,Option.isSome_none,Bool.false_eq_true,if_false,Fdz]
    by_cases h2:((xs.toList.map (opd E.T N ty τ)).flatMap Ajz).isEmpty=true
    ·simp only[h2,if_true,key g hf hso h2]
     cases Aaz 0 (xs.toList.map (opd E.T N ty τ))with
     |none=>simp
     |some q=>
      simp only[Option.bind_some,CJz]
      cases hr:call g q.1 []with
      |none=>simp
      |some r=>
       simp only[Option.bind_some,Agz,Dsz]
       by_cases hc:r.boxes.length=0∧(r.res.cells.any CV.flag&& !q.2.1.isEmpty)=false∧CSz r.res=true∧r.res.cells.all noBr=true
       ·rw[if_pos hc,if_pos ⟨hc.1,hc.2.2⟩]
        cases hfl:r.res.cells.any CV.flag with
        |false=>simp only[Agz,Bool.false_eq_true,if_false]
        |true=>
         have h9:=hc.2.1
         rw[hfl]at h9
         simp only[Agz,if_true,OXz q.2.1 τ h9]
       ·rw[if_neg hc]
        simp
    ·simp[h2]
   |cons _ _=>simp
  |_=>simp
 ·simp[AJz,hd,Br]
@[simp↓] theorem Wlz {x:Operand} {t:TypeId}:Wp (AJz E call N ⟨some d,.call ⟨.builtin .len,#[x],#[t]⟩,ty,ps,af,gd⟩ σ) L=
  Br (d<N) (Wp (some (clear d σ)) fun σ=>Wp (Fjz E.T t (opd E.T N ty σ x)) fun v=>Wp (some (σ.set d v)) L) False:=by
 by_cases hd:d<N
 ·simp only[AJz,hd,if_true,Chz,Agz,BLz]
  have hp:ALz E call N ⟨some d,.call ⟨.builtin .len,#[x],#[t]⟩,ty,ps,af,gd⟩ (clear d σ)=Fjz E.T t (opd E.T N ty (clear d σ) x):=rfl
  have he:Cyz E call N ⟨some d,.call ⟨.builtin .len,#[x],#[t]⟩,ty,ps,af,gd⟩ d (clear d σ)=none:=rfl
  rw[hp,he]
  cases Fjz E.T t (opd E.T N ty (clear d σ) x)<;>simp
 ·simp[AJz,hd,Br]
@[simp↓] theorem RLz {x y:Operand} {t u:TypeId}:Wp (AJz E call N ⟨some d,.call ⟨.builtin .append,#[x,y],#[t,u]⟩,ty,ps,af,gd⟩ σ) L=
  Br (d<N) (Wp (some (clear d σ)) fun σ=>Br (((E.T.sl u).isSome||E.T.str u)=true) (Wp (Dnz E.T σ d t (opd E.T N ty σ x) (opd E.T N ty σ y)) fun r=>Wp (some (r.1.set d r.2)) L) False) False:=by
 by_cases hd:d<N
 ·simp only[AJz,hd,if_true,Chz,Agz,BLz]
  have hp:ALz E call N ⟨some d,.call ⟨.builtin .append,#[x,y],#[t,u]⟩,ty,ps,af,gd⟩ (clear d σ)=none:=rfl
  have he:Cyz E call N ⟨some d,.call ⟨.builtin .append,#[x,y],#[t,u]⟩,ty,ps,af,gd⟩ d (clear d σ)=if((E.T.sl u).isSome||E.T.str u)=true then Dnz E.T (clear d σ) d t (opd E.T N ty (clear d σ) x) (opd E.T N ty (clear d σ) y)else none:=rfl
  rw[hp,he]
  simp only[B3z,DNz,C0z,Agz]
 ·simp[AJz,hd,Br]
@[simp↓] theorem Wjz {x y:Operand} {ts:Array TypeId}:Wp (AJz E call N ⟨some d,.call ⟨.builtin .min,#[x,y],ts⟩,ty,ps,af,gd⟩ σ) L=
  Br (d<N) (Wp (some (clear d σ)) fun σ=>Wp (min2 (opd E.T N ty σ x) (opd E.T N ty σ y)) fun v=>Wp (some (σ.set d v)) L) False:=by
 by_cases hd:d<N
 ·simp only[AJz,hd,if_true,Chz,Agz,BLz]
  have hp:ALz E call N ⟨some d,.call ⟨.builtin .min,#[x,y],ts⟩,ty,ps,af,gd⟩ (clear d σ)=Cpz min2 (opd E.T N ty (clear d σ) x) [opd E.T N ty (clear d σ) y]:=rfl
  have he:Cyz E call N ⟨some d,.call ⟨.builtin .min,#[x,y],ts⟩,ty,ps,af,gd⟩ d (clear d σ)=none:=rfl
  rw[hp,he]
  simp only[Cpz]
  cases min2 (opd E.T N ty (clear d σ) x) (opd E.T N ty (clear d σ) y)<;>simp
 ·simp[AJz,hd,Br]
@[simp↓] theorem Wkz {x y:Operand} {ts:Array TypeId}:Wp (AJz E call N ⟨some d,.call ⟨.builtin .max,#[x,y],ts⟩,ty,ps,af,gd⟩ σ) L=
  Br (d<N) (Wp (some (clear d σ)) fun σ=>Wp (max2 (opd E.T N ty σ x) (opd E.T N ty σ y)) fun v=>Wp (some (σ.set d v)) L) False:=by
 by_cases hd:d<N
 ·simp only[AJz,hd,if_true,Chz,Agz,BLz]
  have hp:ALz E call N ⟨some d,.call ⟨.builtin .max,#[x,y],ts⟩,ty,ps,af,gd⟩ (clear d σ)=Cpz max2 (opd E.T N ty (clear d σ) x) [opd E.T N ty (clear d σ) y]:=rfl
  have he:Cyz E call N ⟨some d,.call ⟨.builtin .max,#[x,y],ts⟩,ty,ps,af,gd⟩ d (clear d σ)=none:=rfl
  rw[hp,he]
  simp only[Cpz]
  cases max2 (opd E.T N ty (clear d σ) x) (opd E.T N ty (clear d σ) y)<;>simp
 ·simp[AJz,hd,Br]
end
def start (N:Nat) (args:List SV) (bs:List (List CV)):St:=args.map (Biz N)++List.replicate (N - args.length) .undef++bs.map (.c .box)
def finish (T:Tys) (N m:Nat) (rs:List ResultVar) (σ:St):Option Ret:=
 (BGz T false N σ.length 0 rs σ).bind fun q=>
  (settles ((List.range m).map (N+ ·)) q.1).bind fun σ=>
  (Bwz σ ((List.range m).map (N+ ·))).bind fun m=>if m.all (·.all noBr)then some ⟨.c (BCz q.2.1) q.2.2,m⟩else none
def IBz (N:Nat) (args:List SV) (σ:St):St:=args.map (SV.up N)++List.replicate (N - args.length) .undef++upSt N σ
def E4z (T:Tys) (N d:Nat) (rs:List ResultVar) (σ:St):Option (St×SV):=
 (BGz T true N (N+d) 0 rs (wipe (N+d) σ)).map fun q=>
   let σ:=dnSt N (tidy N (List.range N) (q.1.set (N+d) (SV.c (BCz q.2.1) q.2.2)))
   (σ,σ.getD d .undef)
def ended:Ex→Prop
 | .exit _=>False
 |_=>True
@[simp] theorem N8z:ended .normal=True:=rfl
@[simp] theorem Stz:ended .ret=True:=rfl
@[simp] theorem Q3z {i}:ended (.exit i)=False:=rfl
theorem TNz {E:Env} {n:Nat} {f:FuncId} {args:List SV} {bs:List (List CV)} {K:Ret→Prop} {fn:Func} {code:Code} (ho:E.orc f=none) (hf:E.fns f=some fn) (hb:fn.body=some code) (hl:args.length≤fn.ntmps)
  (h:Wp (AGz (E.run f (icall E n)) (pcall E n) fn.ntmps n code (start fn.ntmps args bs)) fun r=>ended r.1∧Wp (finish (E.run f (icall E n)).T fn.ntmps bs.length fn.results.toList r.2) K):Wp (pcall E (n+1) f args bs) K:=by
 obtain⟨⟨e,σ⟩,h1,h2,h3⟩:=h
 unfold start at h1
 simp only[HQz,pbody,ho,hf,hb,Option.bind_some,hl,if_true,h1]
 cases e with
 |exit i=>exact h2.elim
 |normal=>exact h3
 |ret=>exact h3
theorem TPz {E:Env} {n:Nat} {f:FuncId} {d:Nat} {τ:St} {args:List SV} {K:St×SV→Prop} {fn:Func} {code:Code} (hf:E.fns f=some fn) (hb:fn.body=some code) (hl:args.length≤fn.ntmps)
  (h:Wp (AGz (E.run f (icall E n)) (pcall E n) fn.ntmps n code (IBz fn.ntmps args τ)) fun r=>ended r.1∧Wp (E4z (E.run f (icall E n)).T fn.ntmps d fn.results.toList r.2) K):Wp (icall E (n+1) f d τ args) K:=by
 obtain⟨⟨e,σ⟩,h1,h2,h3⟩:=h
 unfold IBz at h1
 simp only[Kiz,ibody,hf,hb,Option.bind_some,hl,if_true,h1]
 cases e with
 |exit i=>exact h2.elim
 |normal=>exact h3
 |ret=>exact h3
theorem Pmz {f:St→Option (Ex×St)} {K:Ex×St→Prop} (I:Nat→St→Prop) (h:∀k σ,I k σ→Wp (f σ) (cont (fun σ'=>∃k',k'<k∧I k' σ') K)):∀(n k:Nat) (σ:St),k<n→I k σ→Wp (iter f n σ) K
 |0,k,σ,hk,_=>absurd hk (Nat.not_lt_zero _)
 |n+1,k,σ,hk,hi=>by
  obtain⟨⟨e,σ'⟩,h1,h2⟩:=h k σ hi
  simp only[iter,h1,Option.bind_some]
  cases e with
  |normal=>
   obtain⟨k',hk',hi'⟩:=h2
   exact Pmz I h n k' σ' (by omega) hi'
  |exit i=>exact Agz▸h2
  |ret=>exact Agz▸h2
theorem VBz {E:Env} {call:CallF} {N n:Nat} {b:Code} {σ:St} {K:Ex×St→Prop} (I:Nat→St→Prop) (k:Nat) (hk:k<n) (hi:I k σ)
  (h:∀k σ,I k σ→Wp (some (tidy N (E.D (BVz b)) σ)) fun σ=>Wp (AGz E call N n b σ) (cont (fun σ'=>∃k',k'<k∧I k' σ') K)):Wp (AGz E call N n (.loop b) σ) K:=by
 simp only[AGz]
 exact Pmz I (fun k σ hi=>by have:=h k σ hi;rwa[Agz]at this) n k σ hk hi
end Go.Proofs.YtblelojdboefjaaGreatDoor.R
namespace Go.Proofs.YtblelojdboefjaaGreatDoor.R
open Go
class Kont (α:Type)where
 run:α→Prop
class Later where
 it:Prop
def Wq {α:Type} (x:Option α) [k:Kont α]:Prop:=Wp x k.run
def Bq (c:Prop) [a:Later] [b:Later]:Prop:=Br c a.it b.it
section
variable {α β:Type}
@[go_sem] theorem AFqz {f:α→Prop} {a:α}:(Kont.mk f).run a=f a:=rfl
@[go_sem] theorem AEYz {A B:Later}: @Bq True A B=A.it:=Chz
@[go_sem] theorem ACTz {A B:Later}: @Bq False A B=B.it:=Hoz
@[go_sem] theorem AJHz {p:Prop}:(Later.mk p).it=p:=rfl
@[go_sem] theorem Evz {a:α} {K:Kont α}: @Wq α (some a) K=K.run a:=Agz
@[go_sem] theorem ACbz {K:Kont α}: @Wq α none K=False:=C0z
@[go_sem ↓] theorem ACcz {x:Option α} {g:α→Option β} {K:Kont β}: @Wq β (x.bind g) K= @Wq α x ⟨fun r=> @Wq β (g r) K⟩:=CJz
@[go_sem ↓] theorem AErz {x:Option α} {g:α→β} {K:Kont β}: @Wq β (x.map g) K= @Wq α x ⟨fun r=>K.run (g r)⟩:=B3z
@[go_sem ↓] theorem AEsz {c:Prop} [Decidable c] {x y:Option α} {K:Kont α}: @Wq α (if c then x else y) K= @Bq c ⟨@Wq α x K⟩ ⟨@Wq α y K⟩:=DNz
theorem Wq.mono {x:Option α} {K L:Kont α} (h: @Wq α x K) (hk:∀r,K.run r→L.run r): @Wq α x L:=Wp.mono h hk
theorem Bzz {x:Option α} {r:α} {K:Kont α} (h:x=some r) (hk:K.run r): @Wq α x K:=YZz h hk
theorem Czz {c:Prop} {A B:Later} (h1:c→A.it) (h2:¬c→B.it): @Bq c A B:=⟨h1,h2⟩
theorem BNz {c:Prop} {A B:Later} (h:c) (h1:A.it): @Bq c A B:=Xgz h h1
theorem EDz {c:Prop} {A B:Later} (h:¬c) (h1:B.it): @Bq c A B:=Xhz h h1
end
attribute [go_sem ↓] PHz Syz Ufz RFz WBz
@[go_sem ↓] theorem AAVz {i j:Nat} {K:Ex×St→Prop} {σ:St}:blk i K (.exit j,σ)=if j=i then K (.normal,σ)else K (.exit j,σ):=rfl
section
variable {E:Env} {call:CallF} {N n:Nat} {σ:St} {K:Kont (Ex×St)} {L:Kont St} {d:Tmp} {ty:TypeId} {ps:String} {af:Array Edge} {gd:Option (Nat×Bool)}
@[go_sem ↓] theorem ACrz: @Wq _ (AGz E call N n .skip σ) K= @Wq _ (some σ) ⟨fun σ=>K.run (.normal,σ)⟩:=wp_skip
@[go_sem ↓] theorem ACxz {i}: @Wq _ (AGz E call N n (.exit i) σ) K= @Wq _ (some σ) ⟨fun σ=>K.run (.exit i,σ)⟩:=wp_exit
@[go_sem ↓] theorem AFsz: @Wq _ (AGz E call N n .ret σ) K= @Wq _ (some σ) ⟨fun σ=>K.run (.ret,σ)⟩:=wp_ret
@[go_sem ↓] theorem AFrz {a b:Code}: @Wq _ (AGz E call N n (.seq a b) σ) K= @Wq _ (AGz E call N n a σ) ⟨cont (fun σ=> @Wq _ (AGz E call N n b σ) K) K.run⟩:=wp_seq
@[go_sem ↓] theorem AC0z {c:Operand} {t e:Code}: @Wq _ (AGz E call N n (.cond c t e) σ) K= @Wq _ (some σ) ⟨fun σ=> @Wq _ (opd E.T N 0 σ c).bool? ⟨fun x=> @Bq (x=true) ⟨@Wq _ (AGz E call N n t σ) K⟩ ⟨@Wq _ (AGz E call N n e σ) K⟩⟩⟩:=wp_cond
@[go_sem ↓] theorem AAnz {id:Nat} {b:Code}: @Wq _ (AGz E call N n (.block id b) σ) K= @Wq _ (AGz E call N n b σ) ⟨blk id K.run⟩:=wp_block
@[go_sem ↓] theorem Zdz {id:Nat} {ops:Array Oper}: @Wq _ (AGz E call N n (.region id ops false) σ) K= @Wq _ (runL E call N ops ops.toList σ) ⟨fun σ=>K.run (.normal,σ)⟩:=wp_region
@[go_sem ↓] theorem AFtz {ops:Array Oper}: @Wq _ (runL E call N ops [] σ) L= @Wq _ (some σ) L:=Wiz
@[go_sem ↓] theorem ACzz {ops:Array Oper} {d:Option Tmp} {op:Op} {ty:TypeId} {ps:String} {af:Array Edge} {r:List Oper}: @Wq _ (runL E call N ops (⟨d,op,ty,ps,af,none⟩::r) σ) L= @Wq _ (AJz E call N ⟨d,op,ty,ps,af,none⟩ σ) ⟨fun σ=> @Wq _ (runL E call N ops r σ) L⟩:=VEz
@[go_sem ↓] theorem WIz {ops:Array Oper} {d:Tmp} {op:Op} {ty:TypeId} {ps:String} {af:Array Edge} {j:Nat} {want:Bool} {r:List Oper}: @Wq _ (runL E call N ops (⟨some d,op,ty,ps,af,some (j,want)⟩::r) σ) L= @Wq _ (some σ) ⟨fun σ=> @Wq _ ((ops[j]?).bind (·.dst)) ⟨fun t=> @Bq (t<N∧d<N) ⟨@Wq _ (gval (σ.getD t .undef)) ⟨fun b=> @Bq (b=some want) ⟨@Wq _ (AJz E call N ⟨some d,op,ty,ps,af,some (j,want)⟩ σ) ⟨fun σ=> @Wq _ (runL E call N ops r σ) L⟩⟩ ⟨@Wq _ (some ((clear d σ).set d skipSV)) ⟨fun σ=> @Wq _ (runL E call N ops r σ) L⟩⟩⟩⟩ ⟨False⟩⟩⟩:=MVz
@[go_sem ↓] theorem ACvz {x}: @Wq _ (AJz E call N ⟨some d,.move x,ty,ps,af,gd⟩ σ) L= @Bq (d<N) ⟨@Wq _ (some (clear d σ)) ⟨fun σ=> @Wq _ (some (σ.set d (opd E.T N ty σ x))) L⟩⟩ ⟨False⟩:=VAz
@[go_sem ↓] theorem ACuz {c a b}: @Wq _ (AJz E call N ⟨some d,.pick c a b,ty,ps,af,gd⟩ σ) L= @Bq (d<N) ⟨@Wq _ (some (clear d σ)) ⟨fun σ=> @Wq _ (opd E.T N ty σ c).bool? ⟨fun t=> @Wq _ (some (σ.set d (if t then opd E.T N ty σ a else opd E.T N ty σ b))) L⟩⟩⟩ ⟨False⟩:=U9z
@[go_sem ↓] theorem AFyz {op t x y u}: @Wq _ (AJz E call N ⟨some d,.binOp op t x y u,ty,ps,af,gd⟩ σ) L= @Bq (d<N) ⟨@Wq _ (some (clear d σ)) ⟨fun σ=> @Wq _ (A7z E.T op t (opd E.T N ty σ x) (opd E.T N ty σ y)) ⟨fun v=> @Wq _ (some (σ.set d (pvSV v))) L⟩⟩⟩ ⟨False⟩:=Wnz
@[go_sem ↓] theorem AJCz {op t x}: @Wq _ (AJz E call N ⟨some d,.unOp op t x,ty,ps,af,gd⟩ σ) L= @Bq (d<N) ⟨@Wq _ (some (clear d σ)) ⟨fun σ=> @Wq _ (unSV op (opd E.T N ty σ x)) ⟨fun v=> @Wq _ (some (σ.set d (pvSV v))) L⟩⟩⟩ ⟨False⟩:=YYz
@[go_sem ↓] theorem ACyz {s t x}: @Wq _ (AJz E call N ⟨some d,.convert s t x,ty,ps,af,gd⟩ σ) L= @Bq (d<N) ⟨@Wq _ (some (clear d σ)) ⟨fun σ=> @Wq _ (GEz E.T s t (opd E.T N ty σ x)) ⟨fun v=> @Wq _ (some (σ.set d v)) L⟩⟩⟩ ⟨False⟩:=VDz
@[go_sem ↓] theorem W4z {t x f}: @Wq _ (AJz E call N ⟨some d,.fieldAddr t x f,ty,ps,af,gd⟩ σ) L= @Bq (d<N) ⟨@Wq _ (some (clear d σ)) ⟨fun σ=> @Wq _ (EWz E.T t (opd E.T N ty σ x) f) ⟨fun v=> @Wq _ (some (σ.set d v)) L⟩⟩⟩ ⟨False⟩:=Mmz
@[go_sem ↓] theorem W3z {t x i}: @Wq _ (AJz E call N ⟨some d,.indexAddr t x i,ty,ps,af,gd⟩ σ) L= @Bq (d<N) ⟨@Wq _ (some (clear d σ)) ⟨fun σ=> @Wq _ (E3z E.T t (opd E.T N ty σ x) (opd E.T N ty σ i)) ⟨fun v=> @Wq _ (some (σ.set d v)) L⟩⟩⟩ ⟨False⟩:=Mlz
@[go_sem ↓] theorem AAlz {t x i}: @Wq _ (AJz E call N ⟨some d,.index t x i,ty,ps,af,gd⟩ σ) L= @Bq (d<N) ⟨@Wq _ (some (clear d σ)) ⟨fun σ=> @Wq _ (GFz E.T t (opd E.T N ty σ x) (opd E.T N ty σ i)) ⟨fun v=> @Wq _ (some (σ.set d v)) L⟩⟩⟩ ⟨False⟩:=TOz
@[go_sem ↓] theorem ACwz {t x}: @Wq _ (AJz E call N ⟨some d,.load t x,ty,ps,af,gd⟩ σ) L= @Bq (d<N) ⟨@Wq _ (some (clear d σ)) ⟨fun σ=> @Wq _ (C4z E.T σ t (opd E.T N ty σ x)) ⟨fun v=> @Wq _ (some (σ.set d v)) L⟩⟩⟩ ⟨False⟩:=VCz
@[go_sem ↓] theorem Ymz {x i}: @Wq _ (AJz E call N ⟨some d,.extract x i,ty,ps,af,gd⟩ σ) L= @Bq (d<N) ⟨@Wq _ (some (clear d σ)) ⟨fun σ=> @Wq _ (Mhz (opd E.T N ty σ x) i) ⟨fun v=> @Wq _ (some (σ.set d v)) L⟩⟩⟩ ⟨False⟩:=QAz
@[go_sem ↓] theorem AAjz {t x lo hi}: @Wq _ (AJz E call N ⟨some d,.slice t x lo hi none,ty,ps,af,gd⟩ σ) L= @Bq (d<N) ⟨@Wq _ (some (clear d σ)) ⟨fun σ=> @Wq _ (Ewz E.T t (opd E.T N ty σ x) (lo.map (opd E.T N ty σ)) (hi.map (opd E.T N ty σ))) ⟨fun v=> @Wq _ (some (σ.set d v)) L⟩⟩⟩ ⟨False⟩:=TMz
@[go_sem ↓] theorem Xrz {x}: @Wq _ (AJz E call N ⟨some d,.nilCheck x,ty,ps,af,gd⟩ σ) L= @Bq (d<N) ⟨@Wq _ (some (clear d σ)) ⟨fun σ=> @Bq (EVz (opd E.T N ty σ x)=true) ⟨@Wq _ (some (σ.set d (opd E.T N ty σ x))) L⟩ ⟨False⟩⟩⟩ ⟨False⟩:=Olz
@[go_sem ↓] theorem AAmz {t ps'}: @Wq _ (AJz E call N ⟨some d,.build t ps',ty,ps,af,gd⟩ σ) L= @Bq (d<N) ⟨@Wq _ (some (clear d σ)) ⟨fun σ=> @Wq _ (E.T.zr t) ⟨fun z=> @Wq _ (E.T.ag t) ⟨fun a=> @Bq (a=true) ⟨@Wq _ (Dkz E.T t (ps'.toList.map fun p=>(p.1,opd E.T N ty σ p.2)) (z.map (PV.cv false))) ⟨fun l=> @Wq _ (some (σ.set d (.c .agg l))) L⟩⟩ ⟨False⟩⟩⟩⟩⟩ ⟨False⟩:=TQz
@[go_sem ↓] theorem Xsz {g caps}: @Wq _ (AJz E call N ⟨some d,.makeFunc (.func g) #[] caps,ty,ps,af,gd⟩ σ) L= @Bq (d<N) ⟨@Wq _ (some (clear d σ)) ⟨fun σ=> @Wq _ (caps.toList.mapM fun x=>FGz (opd E.T N ty σ x)) ⟨fun l=> @Wq _ (some (σ.set d (.fn g l))) L⟩⟩⟩ ⟨False⟩:=Omz
@[go_sem ↓] theorem W2z {t n m}: @Wq _ (AJz E call N ⟨some d,.makeSlice t n m,ty,ps,af,gd⟩ σ) L= @Bq (d<N) ⟨@Wq _ (some (clear d σ)) ⟨fun σ=> @Wq _ (KZz E.T t (opd E.T N ty σ n) (opd E.T N ty σ m)) ⟨fun v=> @Wq _ (some (σ.set d v)) L⟩⟩⟩ ⟨False⟩:=Mkz
@[go_sem ↓] theorem Zez {x}: @Wq _ (AJz E call N ⟨some d,.assign x,ty,ps,af,gd⟩ σ) L= @Bq (d<N) ⟨@Wq _ (some (clear d (BLz d (.assign x) σ))) ⟨fun σ=> @Wq _ (Fpz (kpOf E.T N) d (opd E.T N ty σ x) σ) ⟨fun r=> @Wq _ (some (r.1.set d r.2)) L⟩⟩⟩ ⟨False⟩:=RKz
@[go_sem ↓] theorem AAoz {t}: @Wq _ (AJz E call N ⟨some d,.alloc t,ty,ps,af,gd⟩ σ) L= @Bq (d<N) ⟨@Wq _ (some (clear d σ)) ⟨fun σ=> @Wq _ (E.T.zr t) ⟨fun z=> @Wq _ (some (σ.set d (.c .box (z.map (PV.cv false))))) L⟩⟩⟩ ⟨False⟩:=TRz
@[go_sem ↓] theorem AFxz {t x}: @Wq _ (AJz E call N ⟨some d,.box t x,ty,ps,af,gd⟩ σ) L= @Bq (d<N) ⟨@Wq _ (some (clear d σ)) ⟨fun σ=> @Wq _ (E.T.sz t) ⟨fun n=> @Wq _ (cells? (opd E.T N ty σ x)) ⟨fun cs=> @Bq (cs.length=n) ⟨@Wq _ (ATz (kpOf E.T N) d 0 cs σ) ⟨fun r=> @Wq _ (some (r.1.set d (.c .box r.2))) L⟩⟩ ⟨False⟩⟩⟩⟩⟩ ⟨False⟩:=Wmz
@[go_sem ↓] theorem AAiz {t a x}: @Wq _ (AJz E call N ⟨none,.store t a x,ty,ps,af,gd⟩ σ) L= @Wq _ (Fqz E.T N ty σ t a x) L:=TLz
@[go_sem ↓] theorem AC1z {f:Operand} {xs:Array Operand} {tys:Array TypeId}: @Wq _ (AJz E call N ⟨some d,.call ⟨.value f,xs,tys⟩,ty,ps,af,gd⟩ σ) L= @Bq (d<N) ⟨@Wq _ (some (clear d σ)) ⟨fun σ=> @Wq _ (HBz E call N ty d σ f xs.toList) ⟨fun r=> @Wq _ (some (r.1.set d r.2)) L⟩⟩⟩ ⟨False⟩:=VFz
@[go_sem ↓] theorem AFwz {x:Operand} {t:TypeId}: @Wq _ (AJz E call N ⟨some d,.call ⟨.builtin .len,#[x],#[t]⟩,ty,ps,af,gd⟩ σ) L= @Bq (d<N) ⟨@Wq _ (some (clear d σ)) ⟨fun σ=> @Wq _ (Fjz E.T t (opd E.T N ty σ x)) ⟨fun v=> @Wq _ (some (σ.set d v)) L⟩⟩⟩ ⟨False⟩:=Wlz
@[go_sem ↓] theorem Zfz {x y:Operand} {t u:TypeId}: @Wq _ (AJz E call N ⟨some d,.call ⟨.builtin .append,#[x,y],#[t,u]⟩,ty,ps,af,gd⟩ σ) L= @Bq (d<N) ⟨@Wq _ (some (clear d σ)) ⟨fun σ=> @Bq (((E.T.sl u).isSome||E.T.str u)=true) ⟨@Wq _ (Dnz E.T σ d t (opd E.T N ty σ x) (opd E.T N ty σ y)) ⟨fun r=> @Wq _ (some (r.1.set d r.2)) L⟩⟩ ⟨False⟩⟩⟩ ⟨False⟩:=RLz
@[go_sem ↓] theorem AFuz {x y:Operand} {ts:Array TypeId}: @Wq _ (AJz E call N ⟨some d,.call ⟨.builtin .min,#[x,y],ts⟩,ty,ps,af,gd⟩ σ) L= @Bq (d<N) ⟨@Wq _ (some (clear d σ)) ⟨fun σ=> @Wq _ (min2 (opd E.T N ty σ x) (opd E.T N ty σ y)) ⟨fun v=> @Wq _ (some (σ.set d v)) L⟩⟩⟩ ⟨False⟩:=Wjz
@[go_sem ↓] theorem AFvz {x y:Operand} {ts:Array TypeId}: @Wq _ (AJz E call N ⟨some d,.call ⟨.builtin .max,#[x,y],ts⟩,ty,ps,af,gd⟩ σ) L= @Bq (d<N) ⟨@Wq _ (some (clear d σ)) ⟨fun σ=> @Wq _ (max2 (opd E.T N ty σ x) (opd E.T N ty σ y)) ⟨fun v=> @Wq _ (some (σ.set d v)) L⟩⟩⟩ ⟨False⟩:=Wkz
end
theorem ADz {E:Env} {n:Nat} {f:FuncId} {args:List SV} {bs:List (List CV)} {K:Kont Ret} {fn:Func} {code:Code} (ho:E.orc f=none) (hf:E.fns f=some fn) (hb:fn.body=some code) (hl:args.length≤fn.ntmps)
  (h: @Wq _ (AGz (E.run f (icall E n)) (pcall E n) fn.ntmps n code (start fn.ntmps args bs)) ⟨fun r=>ended r.1∧ @Wq _ (finish (E.run f (icall E n)).T fn.ntmps bs.length fn.results.toList r.2) K⟩): @Wq _ (pcall E (n+1) f args bs) K:=TNz ho hf hb hl h
theorem TKz {E:Env} {n:Nat} {f:FuncId} {d:Nat} {τ:St} {args:List SV} {K:Kont (St×SV)} {fn:Func} {code:Code} (hf:E.fns f=some fn) (hb:fn.body=some code) (hl:args.length≤fn.ntmps)
  (h: @Wq _ (AGz (E.run f (icall E n)) (pcall E n) fn.ntmps n code (IBz fn.ntmps args τ)) ⟨fun r=>ended r.1∧ @Wq _ (E4z (E.run f (icall E n)).T fn.ntmps d fn.results.toList r.2) K⟩): @Wq _ (icall E (n+1) f d τ args) K:=TPz hf hb hl h
theorem U8z {E:Env} {call:CallF} {N n:Nat} {b:Code} {σ:St} {K:Kont (Ex×St)} (I:Nat→St→Prop) (k:Nat) (hk:k<n) (hi:I k σ)
  (h:∀k σ,I k σ→ @Wq _ (some (tidy N (E.D (BVz b)) σ)) ⟨fun σ=> @Wq _ (AGz E call N n b σ) ⟨cont (fun σ'=>∃k',k'<k∧I k' σ') K.run⟩⟩): @Wq _ (AGz E call N n (.loop b) σ) K:=VBz I k hk hi h
theorem ANz {α:Type} {x:Option α} {r:α} (h: @Wq α x ⟨fun s=>s=r⟩):x=some r:=Yaz h
end Go.Proofs.YtblelojdboefjaaGreatDoor.R
namespace Go.Proofs.YtblelojdboefjaaGreatDoor.R
open Go
section
variable {T:Tys} {N:Nat} {ty:TypeId} {σ:St}
@[go_sem] theorem ADBz {t:Nat}:opd T N ty σ (.tmp t)=if t<N then(σ.getD t .undef).view t else .undef:=rfl
@[go_sem] theorem Zlz {v:Value}:opd T N ty σ (.const v)=DUz T ty v:=rfl
@[go_sem] theorem AAxz {f:FuncId}:opd T N ty σ (.func f)= .fn f []:=rfl
@[go_sem] theorem AAPz {k n}:DUz T ty (.int k n)= .c .one [.sh false (.i k n)]:=rfl
@[go_sem] theorem ZQz {b}:DUz T ty (.bool b)= .c .one [.sh false (.b b)]:=rfl
@[go_sem] theorem AAOz {s}:DUz T ty (.string s)= .c .one [.sh false (.t s)]:=rfl
@[go_sem] theorem ZPz:DUz T ty (.slice none 0 0)=match(T.sl ty).bind T.sz with
  |some es=> .c .one [.ow false es []]
  |none=> .undef:=rfl
@[go_sem] theorem ZUz {k}:skipSV.view k=skipSV:=rfl
@[go_sem] theorem Zrz {g e}:skipSV.mapC g e=skipSV:=rfl
@[go_sem] theorem ACLz {s}:skipSV.cut s=skipSV:=rfl
@[go_sem] theorem AANz {s}:SV.undef.cut s= .undef:=rfl
@[go_sem] theorem AKBz {s sh l}:(SV.c sh l).cut s= .c sh l:=rfl
@[go_sem] theorem AICz {s a o}:(SV.bp a o).cut s=if a=s then .undef else .bp a o:=rfl
@[go_sem] theorem AIBz {t s o q kd fl es i f row}:(SV.ep s o q kd fl es i f row).cut t= .ep s o q kd fl es i f row:=rfl
@[go_sem] theorem AH9z {t fl row f}:(SV.sp fl row f).cut t= .sp fl row f:=rfl
@[go_sem] theorem AIAz {s g caps}:(SV.fn g caps).cut s=if caps.contains s then .undef else .fn g caps:=rfl
@[go_sem] theorem AAAz:gval skipSV=some none:=rfl
@[go_sem] theorem AABz {f b}:gval (.c .one [.sh f (.b b)])=some (some b):=rfl
@[go_sem] theorem Zmz {α:Type} {a:α}:(none=some a)=False:=by simp
@[go_sem] theorem ZZz {α:Type} {a b:α}:(some a=some b)=(a=b):=by simp
@[go_sem] theorem Ycz {k}:SV.undef.view k= .undef:=rfl
@[go_sem] theorem AAaz {k l}:(SV.c .box l).view k= .bp k 0:=rfl
@[go_sem] theorem AAZz {k l}:(SV.c .one l).view k= .c .one (Acz (CV.view k) 0 l):=rfl
@[go_sem] theorem AAbz {k l}:(SV.c .agg l).view k= .c .agg (Acz (CV.view k) 0 l):=rfl
@[go_sem] theorem AAYz {k s l}:(SV.c (.tup s) l).view k= .c (.tup s) (Acz (CV.view k) 0 l):=rfl
@[go_sem] theorem ACgz {k s o}:(SV.bp s o).view k= .bp s o:=rfl
@[go_sem] theorem ACfz {k s o q kd fl es i f row}:(SV.ep s o q kd fl es i f row).view k= .ep s o q kd fl es i f row:=rfl
@[go_sem] theorem ACdz {k fl row f}:(SV.sp fl row f).view k= .sp fl row f:=rfl
@[go_sem] theorem ACez {k g caps}:(SV.fn g caps).view k= .fn g caps:=rfl
@[go_sem] theorem ACIz {k j f p}:(CV.sh f p).view k j= .sh f p:=rfl
@[go_sem] theorem ACJz {k j f es rows}:(CV.ow f es rows).view k j= .br k j [] 0 0 f es rows:=rfl
@[go_sem] theorem ACKz {k j s o q kd lo f es rows}:(CV.br s o q kd lo f es rows).view k j= .br s o q kd lo f es rows:=rfl
@[go_sem] theorem ZOz {k j}:CV.dead.view k j= .dead:=rfl
@[go_sem] theorem Yyz {g j}:Acz g j []=[]:=rfl
@[go_sem] theorem Xwz {g j c l}:Acz g j (c::l)=g j c::Acz g (j+1) l:=rfl
@[go_sem] theorem AC3z {p}:pvSV p= .c .one [.sh false p]:=rfl
@[go_sem] theorem ADCz {y}:(SV.c .one [y]).one?=some y:=rfl
@[go_sem] theorem Uvz {f p}:(SV.c .one [.sh f p]).pv?=some p:=rfl
@[go_sem] theorem AJDz {f es rows}:(SV.c .one [.ow f es rows]).pv?=some (.s es (Adz rows)):=rfl
@[go_sem] theorem AJEz {s o q kd lo f es rows}:(SV.c .one [.br s o q kd lo f es rows]).pv?=some (.s es (Adz rows)):=rfl
@[go_sem] theorem AF9z {f k n}:(SV.c .one [.sh f (.i k n)]).int?=some (k,n):=rfl
@[go_sem] theorem AEZz {f b}:(SV.c .one [.sh f (.b b)]).bool?=some b:=rfl
@[go_sem] theorem AKCz {f p}:(CV.sh f p).p?=some (f,p):=rfl
@[go_sem] theorem AKDz {f es rows}:(CV.ow f es rows).p?=some (f,.s es (Adz rows)):=rfl
@[go_sem] theorem AKEz {s o q kd lo f es rows}:(CV.br s o q kd lo f es rows).p?=some (f,.s es (Adz rows)):=rfl
def Pnz:BinOp→Bool
 | .shl| .shr=>true
 |_=>false
def andI (k:IntKind) (a b:Int):Int:=k.wrap (BitVec.ofInt k.bits a&&&BitVec.ofInt k.bits b).toNat
def orI (k:IntKind) (a b:Int):Int:=k.wrap (BitVec.ofInt k.bits a|||BitVec.ofInt k.bits b).toNat
def xorI (k:IntKind) (a b:Int):Int:=k.wrap (BitVec.ofInt k.bits a^^^BitVec.ofInt k.bits b).toNat
theorem CNz {op:BinOp} (h:Pnz op=false) {t f g k a b}:A7z T op t (.c .one [.sh f (.i k a)]) (.c .one [.sh g (.i k b)])=Mgz op k a b:=by
 cases op<;>simp[Pnz]at h<;>simp[A7z,Uvz]
@[go_sem] theorem AEdz {t f g k k' a b}:A7z T .shl t (.c .one [.sh f (.i k a)]) (.c .one [.sh g (.i k' b)])=BTz .shl k a b:=rfl
@[go_sem] theorem AEcz {t f g k k' a b}:A7z T .shr t (.c .one [.sh f (.i k a)]) (.c .one [.sh g (.i k' b)])=BTz .shr k a b:=rfl
section
variable {t:TypeId} {f g:Bool} {k:IntKind} {a b:Int}
@[go_sem] theorem AEqz:A7z T .add t (.c .one [.sh f (.i k a)]) (.c .one [.sh g (.i k b)])=some (.i k (k.wrap (a+b))):=by rw[CNz rfl];rfl
@[go_sem] theorem AEbz:A7z T .sub t (.c .one [.sh f (.i k a)]) (.c .one [.sh g (.i k b)])=some (.i k (k.wrap (a - b))):=by rw[CNz rfl];rfl
@[go_sem] theorem AEhz:A7z T .mul t (.c .one [.sh f (.i k a)]) (.c .one [.sh g (.i k b)])=some (.i k (k.wrap (a*b))):=by rw[CNz rfl];rfl
@[go_sem] theorem AEfz:A7z T .quo t (.c .one [.sh f (.i k a)]) (.c .one [.sh g (.i k b)])=if b=0 then none else some (.i k (k.wrap (a.tdiv b))):=by rw[CNz rfl];rfl
@[go_sem] theorem AEez:A7z T .rem t (.c .one [.sh f (.i k a)]) (.c .one [.sh g (.i k b)])=if b=0 then none else some (.i k (a.tmod b)):=by rw[CNz rfl];rfl
@[go_sem] theorem AEoz:A7z T .and t (.c .one [.sh f (.i k a)]) (.c .one [.sh g (.i k b)])=some (.i k (andI k a b)):=by rw[CNz rfl];rfl
@[go_sem] theorem AIZz:A7z T .or t (.c .one [.sh f (.i k a)]) (.c .one [.sh g (.i k b)])=some (.i k (orI k a b)):=by rw[CNz rfl];rfl
@[go_sem] theorem AEaz:A7z T .xor t (.c .one [.sh f (.i k a)]) (.c .one [.sh g (.i k b)])=some (.i k (xorI k a b)):=by rw[CNz rfl];rfl
@[go_sem] theorem AEmz:A7z T .eql t (.c .one [.sh f (.i k a)]) (.c .one [.sh g (.i k b)])=some (.b (a==b)):=by rw[CNz rfl];rfl
@[go_sem] theorem AEgz:A7z T .neq t (.c .one [.sh f (.i k a)]) (.c .one [.sh g (.i k b)])=some (.b (a !=b)):=by rw[CNz rfl];rfl
@[go_sem] theorem AEiz:A7z T .lss t (.c .one [.sh f (.i k a)]) (.c .one [.sh g (.i k b)])=some (.b (a<b)):=by rw[CNz rfl];rfl
@[go_sem] theorem AEjz:A7z T .leq t (.c .one [.sh f (.i k a)]) (.c .one [.sh g (.i k b)])=some (.b (a≤b)):=by rw[CNz rfl];rfl
@[go_sem] theorem AEkz:A7z T .gtr t (.c .one [.sh f (.i k a)]) (.c .one [.sh g (.i k b)])=some (.b (a>b)):=by rw[CNz rfl];rfl
@[go_sem] theorem AElz:A7z T .geq t (.c .one [.sh f (.i k a)]) (.c .one [.sh g (.i k b)])=some (.b (a≥b)):=by rw[CNz rfl];rfl
variable {x y:ByteArray}
@[go_sem] theorem AEnz:A7z T .add t (.c .one [.sh f (.t x)]) (.c .one [.sh g (.t y)])=if((x.size+y.size:Nat):Int)>IntKind.i64.max then none else some (.t (x++y)):=rfl
@[go_sem] theorem ACZz:A7z T .eql t (.c .one [.sh f (.t x)]) (.c .one [.sh g (.t y)])=some (.b (x.toList==y.toList)):=rfl
@[go_sem] theorem ACUz:A7z T .neq t (.c .one [.sh f (.t x)]) (.c .one [.sh g (.t y)])=some (.b !(x.toList==y.toList)):=rfl
@[go_sem] theorem ACVz:A7z T .lss t (.c .one [.sh f (.t x)]) (.c .one [.sh g (.t y)])=some (.b (Op.bytesLess x.toList y.toList)):=rfl
@[go_sem] theorem ACWz:A7z T .leq t (.c .one [.sh f (.t x)]) (.c .one [.sh g (.t y)])=some (.b (Op.bytesLess x.toList y.toList||x.toList==y.toList)):=rfl
@[go_sem] theorem ACXz:A7z T .gtr t (.c .one [.sh f (.t x)]) (.c .one [.sh g (.t y)])=some (.b !(Op.bytesLess x.toList y.toList||x.toList==y.toList)):=rfl
@[go_sem] theorem ACYz:A7z T .geq t (.c .one [.sh f (.t x)]) (.c .one [.sh g (.t y)])=some (.b !(Op.bytesLess x.toList y.toList)):=rfl
variable {p q:Bool}
@[go_sem] theorem AEpz {op:BinOp} {l m:List CV}:A7z T op t (.c .agg l) (.c .agg m)=LAz T op t (.c .agg l) (.c .agg m):=rfl
attribute [go_sem] LAz B0z eqRow? pvs? PV.eq?
@[go_sem] theorem ACaz:A7z T .neq t (.c .one [.sh f (.b p)]) (.c .one [.sh g (.b q)])=if T.boo t then some (.b !(p==q))else none:=by simp[A7z,Uvz]
@[go_sem] theorem AExz:unSV .not (.c .one [.sh f (.b p)])=some (.b !p):=rfl
@[go_sem] theorem AEwz:unSV .xor (.c .one [.sh f (.i k a)])=some (.i k (xorI k (if k.signed then -1 else k.max) a)):=rfl
@[go_sem] theorem AEyz:unSV .neg (.c .one [.sh f (.i k a)])=some (.i k (k.wrap (0 - a))):=rfl
end
def demL (d:Nat):Nat→List CV→St→St
 |_,[],σ=>σ
 |j,c::l,σ=>demL d (j+1) l (if c.isOw then demote d j σ else σ)
theorem OBz {d:Nat}:∀(l:List CV) (j:Nat) (σ:St),(∀i,i<l.length→(ABz σ d (j+i)).isOw=(l.getD i .dead).isOw)→Abz d j l.length σ=demL d j l σ
 |[],j,σ,h=>rfl
 |c::l,j,σ,h=>by
  have h0:=h 0 (by simp)
  simp only[Nat.add_zero,List.getD_cons_zero]at h0
  simp only[List.length_cons,Abz,demL,h0]
  refine OBz l (j+1) _ fun i hi=> ?_
  have h1:=h (i+1) (by simp only[List.length_cons];omega)
  rw[List.getD_cons_succ]at h1
  rw[←h1,show j+1+i=j+(i+1)from by omega]
  split
  ·cases hb:(ABz σ d (j+(i+1))).isOw with
   |false=>exact B8z _ _ _ _ _ rfl (fun c hc=>by
    cases c with
    |ow=>simp[CV.isOw]at hc
    |br=>simp only[demC];split<;>rfl
    |_=>rfl) hb
   |true=>
    unfold demote
    rw[Byz _ _ _ _ _ rfl hb]
    cases hc:ABz σ d (j+(i+1))with
    |ow f es rows=>
     simp only[demC]
     rw[if_neg (by omega)];rfl
    |_=>rw[hc]at hb;simp[CV.isOw]at hb
  ·rfl
def Bbz (x:SV) (d:Nat) (σ:St):St:=
 match x with
 | .c .box l=>((demL d 0 l σ).map (SV.cut d)).set d .undef
 | .c _ l=>demL d 0 l σ
 |_=>σ
theorem K2z {d:Nat}:clear d σ=Bbz (σ.getD d .undef) d σ:=by
 have key:∀sh l,σ.getD d .undef= .c sh l→Abz d 0 l.length σ=demL d 0 l σ:=fun sh l h=>OBz l 0 σ fun i hi=>by
  simp only[ABz,h,Nat.zero_add]
 unfold clear Bbz
 generalize hx:σ.getD d .undef=x at key ⊢
 cases x with
 |c sh l=>
  have:=key sh l rfl
  cases sh<;>simp only[this]
 |_=>rfl
@[go_sem ↓] theorem ACOz {d:Nat}:clear d σ=Bbz (σ.getD d .undef) d σ:=K2z
@[go_sem] theorem AEOz {d}:Bbz skipSV d σ=σ:=rfl
@[go_sem] theorem ACPz {d}:Bbz .undef d σ=σ:=rfl
@[go_sem] theorem AKIz {d s o}:Bbz (.bp s o) d σ=σ:=rfl
@[go_sem] theorem AKHz {d s o q kd fl es i f row}:Bbz (.ep s o q kd fl es i f row) d σ=σ:=rfl
@[go_sem] theorem AKFz {d fl row f}:Bbz (.sp fl row f) d σ=σ:=rfl
@[go_sem] theorem AKGz {d g caps}:Bbz (.fn g caps) d σ=σ:=rfl
@[go_sem] theorem AIIz {d l}:Bbz (.c .box l) d σ=((demL d 0 l σ).map (SV.cut d)).set d .undef:=rfl
@[go_sem] theorem AIHz {d l}:Bbz (.c .one l) d σ=demL d 0 l σ:=rfl
@[go_sem] theorem AIJz {d l}:Bbz (.c .agg l) d σ=demL d 0 l σ:=rfl
@[go_sem] theorem AIGz {d s l}:Bbz (.c (.tup s) l) d σ=demL d 0 l σ:=rfl
@[go_sem] theorem AAwz {a b c d:Nat}:((a,b)==(c,d))=if a=c then(if b=d then true else false)else false:=by
 by_cases h1:a=c<;>by_cases h2:b=d<;>simp[h1,h2]
@[go_sem ↓] theorem AACz {d x:Nat}:BLz d (.assign (.tmp x)) σ=Bdz d x (σ.getD x .undef) σ:=rfl
@[go_sem ↓] theorem ZAz {d:Nat} {v:Value}:BLz d (.assign (.const v)) σ=σ:=rfl
@[go_sem ↓] theorem AADz {d:Nat} {f:FuncId}:BLz d (.assign (.func f)) σ=σ:=rfl
@[go_sem] theorem AA6z {d x:Nat}:Bdz d x .undef σ=σ:=rfl
@[go_sem] theorem ADZz {d x:Nat}:Bdz d x skipSV σ=σ:=rfl
@[go_sem] theorem AJOz {d x s o:Nat}:Bdz d x (.bp s o) σ=σ:=rfl
@[go_sem] theorem AJMz {d x s o q kd fl es i f row}:Bdz d x (.ep s o q kd fl es i f row) σ=σ:=rfl
@[go_sem] theorem AJIz {d x fl row f}:Bdz d x (.sp fl row f) σ=σ:=rfl
@[go_sem] theorem AJLz {d x g caps}:Bdz d x (.fn g caps) σ=σ:=rfl
@[go_sem] theorem AGBz {d x l}:Bdz d x (.c .box l) σ=σ:=rfl
@[go_sem] theorem AGCz {d x l}:Bdz d x (.c .agg l) σ=σ:=rfl
@[go_sem] theorem AGAz {d x s l}:Bdz d x (.c (.tup s) l) σ=σ:=rfl
@[go_sem] theorem AJJz {d x f p}:Bdz d x (.c .one [.sh f p]) σ=σ:=rfl
@[go_sem] theorem AJKz {d x f es rows}:Bdz d x (.c .one [.ow f es rows]) σ=σ:=rfl
@[go_sem] theorem ADaz {d x}:Bdz d x (.c .one [.dead]) σ=σ:=rfl
@[go_sem] theorem AJNz {d x s o q kd lo f es rows}:Bdz d x (.c .one [.br s o q kd lo f es rows]) σ=if kd=1∧o=0∧q=[]∧s=d∧(ABz σ d 0).isOw=true then(off d 0 σ).set x (.c .one [.ow f es rows])else σ:=by
 unfold Bdz
 split
 ·rename_i h
  injection h with _ h
  injection h with h _
  injection h with h1 h2 h3 h4 h5 h6 h7 h8
  subst h1;subst h2;subst h3;subst h4;subst h5;subst h6;subst h7;subst h8
  simp
 ·rename_i h
  rw[if_neg]
  rintro⟨rfl,rfl,rfl,_,_⟩
  exact h _ _ _ _ _ rfl
@[go_sem] theorem ABPz {d j}:demL d j [] σ=σ:=rfl
@[go_sem] theorem ADoz {d j f p l}:demL d j (.sh f p::l) σ=demL d (j+1) l σ:=rfl
@[go_sem] theorem ADqz {d j s o q kd lo f es rows l}:demL d j (.br s o q kd lo f es rows::l) σ=demL d (j+1) l σ:=rfl
@[go_sem] theorem AAMz {d j l}:demL d j (.dead::l) σ=demL d (j+1) l σ:=rfl
@[go_sem] theorem ADpz {d j f es rows l}:demL d j (.ow f es rows::l) σ=demL d (j+1) l (demote d j σ):=rfl
@[go_sem] theorem V2z {s j}:Abz s j 0 σ=σ:=rfl
@[go_sem] theorem V3z {s j n}:Abz s j (n+1) σ=Abz s (j+1) n (if(ABz σ s j).isOw then demote s j σ else σ):=rfl
def FVz (x:SV) (o:Nat):CV:=
 match x with
 | .c _ l=>l.getD o .dead
 |_=> .dead
@[go_sem] theorem ZRz {s o}:ABz [] s o= .dead:=rfl
@[go_sem] theorem YUz {x o}:ABz (x::σ) 0 o=FVz x o:=rfl
@[go_sem] theorem YVz {x s o}:ABz (x::σ) (s+1) o=ABz σ s o:=rfl
@[go_sem] theorem ACQz {sh l o}:FVz (.c sh l) o=l.getD o .dead:=rfl
@[go_sem] theorem Xdz {o}:FVz .undef o= .dead:=rfl
@[go_sem] theorem YTz {o}:FVz skipSV o= .dead:=rfl
@[go_sem] theorem AATz {s a o}:FVz (.bp s a) o= .dead:=rfl
@[go_sem] theorem AASz {s a q kd fl es i f row o}:FVz (.ep s a q kd fl es i f row) o= .dead:=rfl
@[go_sem] theorem AAQz {fl row f o}:FVz (.sp fl row f) o= .dead:=rfl
@[go_sem] theorem AARz {g caps o}:FVz (.fn g caps) o= .dead:=rfl
@[go_sem] theorem AIcz {s o q}:atP σ s o q=(ABz σ s o).atQ q:=rfl
@[go_sem] theorem AIbz {f es rows q}:(CV.ow f es rows).atQ q=(getP q (.o es rows)).map fun r=>(f,r):=rfl
@[go_sem] theorem AA7z {es rows}:getP [] (.o es rows)=some (es,rows):=rfl
@[go_sem] theorem AAEz {es rows i j q}:getP ((i,j)::q) (.o es rows)=(rows[i]?).bind fun row=>(row[j]?).bind fun p=>getP q p:=rfl
@[go_sem] theorem ZXz {q}:strip [] q=some q:=rfl
@[go_sem] theorem Ygz {a p b q}:strip (a::p) (b::q)=if a=b then strip p q else none:=rfl
@[go_sem] theorem ZYz {a p}:strip (a::p) []=none:=rfl
@[go_sem] theorem Bgz {g p}:modP g [] p=g p:=by cases p<;>rfl
@[go_sem] theorem Zoz {g i j q es rows}:modP g ((i,j)::q) (.o es rows)=match rows[i]? with
  |some row=>match row[j]? with
   |some p=> .o es (rows.set i (row.set j (modP g q p)))
   |none=> .o es rows
  |none=> .o es rows:=rfl
@[go_sem] theorem Rpz {es0 new es rows}:AKz es0 new (.o es rows)=if es=es0∧rows.length=new.length then .o es new else .un:=rfl
@[go_sem] theorem AFlz {p}:toX p= .un:=rfl
@[go_sem] theorem AF3z {f es rows}:owBy f (.o es rows)= .ow f es rows:=rfl
@[go_sem] theorem ADAz {f}:owBy f .un= .dead:=rfl
@[go_sem] theorem AIYz {s o q f es rows}:brBy s o q f (.o es rows)= .br s o q 0 0 f es rows:=rfl
@[go_sem] theorem AEXz {s o q f}:brBy s o q f .un= .dead:=rfl
@[go_sem] theorem ADLz {s o q g f' k j f p}:modC s o q g f' k j (.sh f p)= .sh f p:=rfl
@[go_sem] theorem Yvz {s o q g f' k j}:modC s o q g f' k j .dead= .dead:=rfl
@[go_sem] theorem Jlz {s o q g f' k j f es rows}:modC s o q g f' k j (.ow f es rows)=if k=s∧j=o then owBy (f||f') (modP g q (.o es rows))else .ow f es rows:=rfl
@[go_sem] theorem ADMz {s o q g f' k j a b q' kd lo f es rows}:modC s o q g f' k j (.br a b q' kd lo f es rows)=modL s o q g f' (.br a b q' kd lo f es rows):=rfl
@[go_sem] theorem ADIz {s o q g f' f p}:modL s o q g f' (.sh f p)= .sh f p:=rfl
@[go_sem] theorem ADJz {s o q g f' f es rows}:modL s o q g f' (.ow f es rows)= .ow f es rows:=rfl
@[go_sem] theorem Zpz {s o q g f'}:modL s o q g f' .dead= .dead:=rfl
@[go_sem] theorem ADKz {s o q g f' a b q' kd lo f es rows}:modL s o q g f' (.br a b q' kd lo f es rows)=if a=s∧b=o then(if kd=0 then(match strip q' q with
   |some r=>brBy a b q' (f||f') (modP g r (.o es rows))
   |none=> .dead)else .dead)else .br a b q' kd lo f es rows:=rfl
@[go_sem] theorem ADGz {s o q s' o' q' k j f p}:mvpC s o q s' o' q' k j (.sh f p)= .sh f p:=rfl
@[go_sem] theorem Yuz {s o q s' o' q' k j}:mvpC s o q s' o' q' k j .dead= .dead:=rfl
@[go_sem] theorem AAzz {s o q s' o' q' k j f es rows}:mvpC s o q s' o' q' k j (.ow f es rows)=if k=s∧j=o then(match q with
   |[]=> .br s' o' q' 0 0 f es rows
   |_::_=>owBy f (modP toX q (.o es rows)))else .ow f es rows:=rfl
@[go_sem] theorem ADHz {s o q s' o' q' k j a b p kd lo f es rows}:mvpC s o q s' o' q' k j (.br a b p kd lo f es rows)=mvpL s o q s' o' q' (.br a b p kd lo f es rows):=rfl
@[go_sem] theorem ADDz {s o q s' o' q' f p}:mvpL s o q s' o' q' (.sh f p)= .sh f p:=rfl
@[go_sem] theorem ADEz {s o q s' o' q' f es rows}:mvpL s o q s' o' q' (.ow f es rows)= .ow f es rows:=rfl
@[go_sem] theorem Znz {s o q s' o' q'}:mvpL s o q s' o' q' .dead= .dead:=rfl
@[go_sem] theorem ADFz {s o q s' o' q' a b p kd lo f es rows}:mvpL s o q s' o' q' (.br a b p kd lo f es rows)=if a=s∧b=o then(match strip q p with
   |some r=> .br s' o' (q'++r) kd lo f es rows
   |none=>match strip p q with
    |some r=>if kd=0 then brBy a b p f (modP toX r (.o es rows))else .dead
    |none=> .br a b p kd lo f es rows)else .br a b p kd lo f es rows:=rfl
@[go_sem] theorem Y0z {s s'}:keeps none s s'=false:=rfl
@[go_sem] theorem Yzz {N s s'}:keeps (some N) s s'=(decide (N≤s)&&decide (s'<N)):=rfl
@[go_sem] theorem ADRz {T:Tys} {N}:kpOf T N=if T.mo then some N else none:=rfl
@[go_sem] theorem Zzz {f p}:Dgz σ (.sh f p)=true:=rfl
@[go_sem] theorem Z0z {f es rows}:Dgz σ (.ow f es rows)=true:=rfl
@[go_sem] theorem Z1z {s o q kd lo f es rows}:Dgz σ (.br s o q kd lo f es rows)=(ABz σ s o).isOw:=rfl
@[go_sem] theorem Zwz {mo inl N d j f p}:Enz mo inl N d j (.sh f p) σ=(persist none d j (.sh f p) σ).map fun r=>(r.1,id,r.2):=rfl
@[go_sem] theorem Zxz {mo inl N d j f es rows}:Enz mo inl N d j (.ow f es rows) σ=(persist none d j (.ow f es rows) σ).map fun r=>(r.1,id,r.2):=rfl
@[go_sem] theorem X0z {mo inl N d j}:Enz mo inl N d j .dead σ=none:=rfl
@[go_sem] theorem Zyz {mo inl N d j s o q kd lo f es rows}:Enz mo inl N d j (.br s o q kd lo f es rows) σ=
  if(inl&&decide (N≤s))=true then(if(ABz σ s o).isOw then some (σ,id,.br s o q kd lo f es rows)else none)
  else match q with
   |[]=>(persist none d j (weaken N (.br s o [] kd lo f es rows)) σ).map fun r=>(r.1,id,r.2)
   |a::q=>if(ABz σ s o).isOw then
     (if(mo&&kd==0)=true then some (mvp s o (a::q) d j [] σ,mvpL s o (a::q) d j [],.ow f es rows)else some (demote s o σ,id,.sh f (.s es (Adz rows))))else none:=rfl
@[go_sem] theorem YJz {f p}:EOz (.sh f p)=p.flat:=rfl
@[go_sem] theorem YKz {f es rows}:EOz (.ow f es rows)=false:=rfl
@[go_sem] theorem YLz {s o q kd lo f es rows}:EOz (.br s o q kd lo f es rows)=false:=rfl
@[go_sem] theorem Wdz:EOz .dead=false:=rfl
@[go_sem] theorem AH3z {k n}:(PV.i k n).flat=true:=rfl
@[go_sem] theorem AH4z {x}:(PV.b x).flat=true:=rfl
@[go_sem] theorem AH0z {s}:(PV.t s).flat=true:=rfl
@[go_sem] theorem AH1z {es rows}:(PV.s es rows).flat=true:=rfl
@[go_sem] theorem AH2z {es rows}:(PV.o es rows).flat=false:=rfl
@[go_sem] theorem ADbz:PV.un.flat=false:=rfl
@[go_sem] theorem zo_i {k n}:(PV.i k n).zo= .i k n:=rfl
@[go_sem] theorem zo_b {x}:(PV.b x).zo= .b x:=rfl
@[go_sem] theorem zo_t {s}:(PV.t s).zo= .t s:=rfl
@[go_sem] theorem zo_s {es}:(PV.s es []).zo= .o es []:=rfl
@[go_sem] theorem AINz {s o q fl i j k n}:(PV.i k n).cell s o q fl i j= .sh false (.i k n):=rfl
@[go_sem] theorem AIOz {s o q fl i j x}:(PV.b x).cell s o q fl i j= .sh false (.b x):=rfl
@[go_sem] theorem AIKz {s o q fl i j x}:(PV.t x).cell s o q fl i j= .sh false (.t x):=rfl
@[go_sem] theorem AILz {s o q fl i j es rows}:(PV.s es rows).cell s o q fl i j= .sh fl (.s es rows):=by cases fl<;>rfl
@[go_sem] theorem AIMz {s o q fl i j es rows}:(PV.o es rows).cell s o q fl i j= .br s o (q++[(i,j)]) 0 0 fl es rows:=rfl
@[go_sem] theorem AEPz {s o q fl i j}:PV.un.cell s o q fl i j= .dead:=rfl
@[go_sem] theorem AETz {fl k n}:(PV.i k n).cellS fl= .sh false (.i k n):=rfl
@[go_sem] theorem AEUz {fl x}:(PV.b x).cellS fl= .sh false (.b x):=rfl
@[go_sem] theorem AEQz {fl x}:(PV.t x).cellS fl= .sh false (.t x):=rfl
@[go_sem] theorem AERz {fl es rows}:(PV.s es rows).cellS fl= .sh fl (.s es rows):=by cases fl<;>rfl
@[go_sem] theorem AESz {fl es rows}:(PV.o es rows).cellS fl= .dead:=rfl
@[go_sem] theorem Wxz {s o q fl i j}:Cbz s o q fl i j []=[]:=rfl
@[go_sem] theorem WGz {s o q fl i j p l}:Cbz s o q fl i j (p::l)=p.cell s o q fl i j::Cbz s o q fl i (j+1) l:=rfl
@[go_sem] theorem er_i {k n}:(PV.i k n).er= .i k n:=rfl
@[go_sem] theorem er_b {x}:(PV.b x).er= .b x:=rfl
@[go_sem] theorem er_t {s}:(PV.t s).er= .t s:=rfl
@[go_sem] theorem er_s {es rows}:(PV.s es rows).er= .s es rows:=rfl
@[go_sem] theorem er_o {es rows}:(PV.o es rows).er= .s es (Adz rows):=rfl
@[go_sem] theorem ZFz:Cxz []=[]:=rfl
@[go_sem] theorem YQz {p l}:Cxz (p::l)=p.er::Cxz l:=rfl
@[go_sem] theorem YOz:Adz []=[]:=rfl
@[go_sem] theorem N5z {r l}:Adz (r::l)=Cxz r::Adz l:=rfl
theorem EXz:∀{l:List (List PV)},Adz l=l.map Cxz
 |[]=>rfl
 |r::l=>by rw[N5z,EXz];rfl
@[go_sem] theorem ZEz {l:List (List PV)}:(Adz l).length=l.length:=A6z l
@[go_sem] theorem Wez {a b:List (List PV)}:Adz (a++b)=Adz a++Adz b:=by simp[EXz]
@[go_sem] theorem YNz {a:List (List PV)} {n:Nat}:Adz (a.take n)=(Adz a).take n:=by simp[EXz]
@[go_sem] theorem ZBz {a:List (List PV)} {n:Nat} {r:List PV}:Adz (a.set n r)=(Adz a).set n (Cxz r):=by simp[EXz]
@[go_sem] theorem ZCz {n:Nat} {r:List PV}:Adz (List.replicate n r)=List.replicate n (Cxz r):=by simp[EXz]
theorem Hlz {α:Type} {l:List α} {f:α→List PV}:Adz (l.map f)=l.map fun x=>Cxz (f x):=by simp[EXz]
class FlatF {α:Type} (f:α→List PV):Prop where
 er:∀x,Cxz (f x)=f x
 flat:∀x,CYz (f x)=true
theorem FlatF.mk' {α:Type} {f:α→List PV} (h:∀x,CYz (f x)=true):FlatF f:=⟨fun x=>Ksz (h x),h⟩
@[go_sem] theorem YPz {α:Type} {l:List α} {f:α→List PV} [FlatF f]:Adz (l.map f)=l.map f:=by
 rw[Hlz];simp only[FlatF.er]
@[go_sem] theorem YMz {s:ByteArray}:Adz (BHz s)=BHz s:=by
 unfold BHz;rw[Hlz];rfl
@[go_sem] theorem YIz:CYz []=true:=rfl
@[go_sem] theorem XYz {p l}:CYz (p::l)=(p.flat&&CYz l):=rfl
@[go_sem] theorem XXz:A4z []=true:=rfl
@[go_sem] theorem Waz {r l}:A4z (r::l)=(CYz r&&A4z l):=rfl
@[go_sem] theorem U2z {a b:List (List PV)}:A4z (a++b)=(A4z a&&A4z b):=by simp[A4z]
theorem Iez {α:Type} {l:List α} {f:α→List PV} (h:∀x,CYz (f x)=true):A4z (l.map f)=true:=by
 simp[A4z,h]
@[go_sem] theorem WZz {α:Type} {l:List α} {f:α→List PV} [h:FlatF f]:A4z (l.map f)=true:=Iez h.flat
@[go_sem] theorem WYz {s:ByteArray}:A4z (BHz s)=true:=by
 unfold BHz;exact Iez fun x=>rfl
@[go_sem] theorem XWz {a:List (List PV)} {n:Nat} {r:List PV} (h:A4z a=true) (h2:CYz r=true):A4z (a.set n r)=true:=by
 simp only[A4z,List.all_eq_true]at h ⊢
 intro x hx
 rcases List.mem_or_eq_of_mem_set hx with hx|rfl
 ·exact h x hx
 ·exact h2
class ScalF {α:Type} (f:α→List PV):Prop where
 sc:∀x,(f x).all PV.scalar=true
@[go_sem] theorem Zjz:CFz []=true:=rfl
@[go_sem] theorem Yrz {r l}:CFz (r::l)=(r.all PV.scalar&&CFz l):=rfl
@[go_sem] theorem IQz {α:Type} {l:List α} {f:α→List PV} [h:ScalF f]:CFz (l.map f)=true:=by simp[CFz,h.sc]
@[go_sem] theorem Ypz {s:ByteArray}:CFz (BHz s)=true:=by
 unfold CFz BHz;rw[List.all_map];exact List.all_eq_true.2 fun x _=>rfl
attribute [go_sem] FQz
@[go_sem] theorem ACpz {α:Type} {l:List α} {i:Nat} {a:α}:(l.set i a)[i]? =(l[i]?).map fun _=>a:=by
 rw[List.getElem?_set_self'];rfl
attribute [go_sem] List.set_set implies_true or_false or_true false_or true_or
@[go_sem] theorem AC9z {a b c d:Nat}:((a,b)=(c,d))=(a=c∧b=d):=by simp
@[go_sem] theorem ACNz {α:Type} {a:α} {l:List α}:(a::l=[])=False:=by simp
@[go_sem] theorem ADfz {E:Env} {f c}:(E.run f c).T.sl=E.T.sl:=rfl
@[go_sem] theorem ADdz {E:Env} {f c}:(E.run f c).T.sz=E.T.sz:=rfl
@[go_sem] theorem ABAz {E:Env} {f c}:(E.run f c).T.byt=E.T.byt:=rfl
@[go_sem] theorem ADlz {E:Env} {f c}:(E.run f c).T.ag=E.T.ag:=rfl
@[go_sem] theorem ADcz {E:Env} {f c}:(E.run f c).T.zr=E.T.zr:=rfl
@[go_sem] theorem ADjz {E:Env} {f c}:(E.run f c).T.fo=E.T.fo:=rfl
@[go_sem] theorem ADiz {E:Env} {f c}:(E.run f c).T.fz=E.T.fz:=rfl
@[go_sem] theorem ADhz {E:Env} {f c}:(E.run f c).T.ik=E.T.ik:=rfl
@[go_sem] theorem AA8z {E:Env} {f c}:(E.run f c).T.str=E.T.str:=rfl
@[go_sem] theorem ABBz {E:Env} {f c}:(E.run f c).T.boo=E.T.boo:=rfl
@[go_sem] theorem AA9z {E:Env} {f c}:(E.run f c).T.eqs=E.T.eqs:=rfl
@[go_sem] theorem ADgz {E:Env} {f c}:(E.run f c).T.mo=E.mv f:=rfl
@[go_sem] theorem ADkz {E:Env} {f c}:(E.run f c).T.al=E.al f:=rfl
@[go_sem] theorem ADez {E:Env} {f c g}:(E.run f c).T.so g=if E.inl g=true then some (c g)else E.T.so g:=rfl
@[go_sem] theorem AH5z {E:Env} {f c}:(E.run f c).D=E.dead f:=rfl
@[go_sem] theorem ADWz {f p}:(CV.sh f p).isOw=false:=rfl
@[go_sem] theorem ADXz {f es rows}:(CV.ow f es rows).isOw=true:=rfl
@[go_sem] theorem ADYz {s o q kd lo f es rows}:(CV.br s o q kd lo f es rows).isOw=false:=rfl
@[go_sem] theorem Z5z:CV.dead.isOw=false:=rfl
attribute [go_sem] H0z demote move off turn modS mvp Afz demC mvC offC Ayz epTo persist ATz nest Cmz Aiz PV.cv PV.scalar Iwz blanks Tgt.next KEz offO id_eq Dfz
@[go_sem] theorem Yxz {g e}:SV.undef.mapC g e= .undef:=rfl
@[go_sem] theorem AF4z {g e sh l}:(SV.c sh l).mapC g e= .c sh (Acz g 0 l):=rfl
@[go_sem] theorem ADQz {g e s o}:(SV.bp s o).mapC g e= .bp s o:=rfl
@[go_sem] theorem ADNz {g e fl row f}:(SV.sp fl row f).mapC g e= .sp fl row f:=rfl
@[go_sem] theorem ADOz {g e i caps}:(SV.fn i caps).mapC g e= .fn i caps:=rfl
@[go_sem] theorem ADPz {g e s o q kd fl es i f row}:(SV.ep s o q kd fl es i f row).mapC g e=match e s o q with
  |some (s',o',q')=> .ep s' o' q' kd fl es i f row
  |none=> .undef:=rfl
attribute [go_sem] Fpz cells? comp Mhz lay layP part CV.isDead Mfz Dwz Ajz CSz noBr CV.flag CV.reflag SV.cells SV.reflag back COz EFz
attribute [go_sem] EWz Fjz E3z GFz Ewz bound Dkz Aqz HKz Dnz KZz EVz min2 max2 GEz FGz tidy finish BGz EKz KLz BCz weaken settles settle GMz K7z Bwz BPz start Biz BVz Fqz Bsz FWz Ckz
attribute [go_sem] List.getD_cons_zero List.getD_cons_succ List.getD_nil List.set_cons_zero List.set_cons_succ List.map_cons List.map_nil List.length_cons List.length_nil List.nil_append List.cons_append List.append_nil List.replicate_succ List.replicate_zero List.flatMap_cons List.flatMap_nil
attribute [go_sem] List.all_cons List.all_nil List.any_cons List.any_nil List.isEmpty_nil List.isEmpty_cons List.take_zero List.take_succ_cons List.drop_zero List.drop_succ_cons List.take_nil List.drop_nil List.contains_nil List.contains_cons List.range_zero
attribute [go_sem] Option.map_some Option.map_none Option.bind_some Option.bind_none Option.isSome_some Option.isSome_none Option.getD_some Option.getD_none
attribute [go_sem] Bool.or_false Bool.or_true Bool.false_or Bool.true_or Bool.and_false Bool.and_true Bool.false_and Bool.true_and Bool.not_true Bool.not_false Bool.not_not decide_eq_true_eq decide_eq_false_iff_not Bool.false_eq_true Bool.true_eq_false
attribute [go_sem] true_and and_true false_and and_false not_true_eq_false not_false_eq_true N8z Stz Q3z List.toArray List.toList_toArray
attribute [go_sem] if_true if_false reduceIte ite_true ite_false eq_self ne_eq
theorem getElem?_arr {α:Type} {l:List α} {i:Nat}:(l.toArray)[i]? =l[i]? :=by simp
attribute [go_sem] getElem?_arr List.getElem?_cons_zero List.getElem?_cons_succ List.getElem?_nil
section
variable {t:TypeId}
def GUz (E:Env) (call:CallF) (N:Nat) (ty:TypeId) (d:Nat) (σ:St) (g:FuncId) (xs:List Operand):Option (St×SV):=
  if ((xs.map (opd E.T N ty σ)).flatMap Ajz).isEmpty then (Aaz 0 (xs.map (opd E.T N ty σ))).bind fun q => (call g q.1 []).bind fun r => Dsz σ q r
      else Bsz E call N ty d σ (.func g) xs
@[go_sem] theorem Yjz {α β:Type} {h:α} {a:α→β} {b:β}:Fdz (some h) a b=a h:=rfl
@[go_sem] theorem Ykz {α β:Type} {a:α→β} {b:β}:Fdz none a b=b:=rfl
@[go_sem ↓] theorem ZSz {E:Env} {call:CallF} {d:Nat} {g:FuncId} {xs:List Operand}:HBz E call N ty d σ (.func g) xs=Fdz (E.T.so g) (fun h=>h d σ (xs.map (opd E.T N ty σ))) (GUz E call N ty d σ g xs):=rfl
@[go_sem ↓] theorem Xvz {E:Env} {call:CallF} {d:Nat} {g:FuncId} {xs:List Operand} {K:Kont (St×SV)}: @Wq _ (GUz E call N ty d σ g xs) K= @Wq _ (some (xs.map (opd E.T N ty σ))) ⟨fun vs=> @Bq ((vs.flatMap Ajz).isEmpty=true)
  ⟨@Wq _ (Aaz 0 vs) ⟨fun q=> @Wq _ (call g q.1 []) ⟨fun r=> @Wq _ (Dsz σ q r) K⟩⟩⟩ ⟨@Wq _ (Bsz E call N ty d σ (.func g) xs) K⟩⟩:=by
 show Wp (GUz E call N ty d σ g xs) K.run=Wp (some (xs.map (opd E.T N ty σ))) fun vs=>Br ((vs.flatMap Ajz).isEmpty=true) (Wp (Aaz 0 vs) fun q=>Wp (call g q.1 []) fun r=>Wp (Dsz σ q r) K.run) (Wp (Bsz E call N ty d σ (.func g) xs) K.run)
 rw[Agz]
 simp only[GUz,DNz,CJz]
@[go_sem ↓] theorem ACqz {q:List SV×List (Nat×Nat)×Bool} {r:Ret} {K:Kont (St×SV)}: @Wq _ (Dsz σ q r) K= @Bq (r.boxes.length=0∧CSz r.res=true∧r.res.cells.all noBr=true) ⟨@Wq _ (some (r.res.cells.any CV.flag)) ⟨fun fl=> @Bq (fl=true) ⟨@Wq _ (some (back [] q.2.1 true σ,r.res.reflag q.2.2)) K⟩ ⟨@Wq _ (some (σ,r.res.reflag q.2.2)) K⟩⟩⟩ ⟨False⟩:=by
 show Wp (Dsz σ q r) K.run=Br (r.boxes.length=0∧CSz r.res=true∧r.res.cells.all noBr=true) (Wp (some (r.res.cells.any CV.flag)) fun fl=>Br (fl=true) (Wp (some (back [] q.2.1 true σ,r.res.reflag q.2.2)) K.run) (Wp (some (σ,r.res.reflag q.2.2)) K.run)) False
 simp only[Dsz,DNz,C0z,Agz]
 cases r.res.cells.any CV.flag<;>simp[Chz,Hoz]
@[go_sem] theorem XDz {k}:Aaz k []=some ([],[],false):=rfl
@[go_sem] theorem XCz {k cs l}:Aaz k (.c .one cs::l)=(Dwz cs).bind fun r=>(Aaz k l).map fun q=>(.c .one r.1::q.1,r.2.1++q.2.1,r.2.2||q.2.2):=rfl
@[go_sem] theorem XEz {k cs l}:Aaz k (.c .agg cs::l)=(Dwz cs).bind fun r=>(Aaz k l).map fun q=>(.c .agg r.1::q.1,r.2.1++q.2.1,r.2.2||q.2.2):=rfl
@[go_sem] theorem Xzz {k s l}:Aaz k (.bp s 0::l)=(Aaz (k+1) l).map fun q=>(.bp k 0::q.1,q.2):=rfl
@[go_sem] theorem Xyz {k g caps l}:Aaz k (.fn g caps::l)=(Aaz (k+caps.length) l).map fun q=>(.fn g (List.range' k caps.length)::q.1,q.2):=rfl
def mkSV (a:Bool) (l:List CV):SV:= .c (if a then .agg else .one) l
@[go_sem] theorem Zqz {l}:mkSV true l= .c .agg l:=rfl
@[go_sem] theorem Ywz {l}:mkSV false l= .c .one l:=rfl
def LSz (a:Bool) (n o s:Nat) (x:SV):Option SV:=
 match x with
 | .c .box l=>(part n o (Acz (CV.view s) 0 l)).bind fun l=>if a|| !(l.any CV.isDead)then some (mkSV a l)else none
 |_=>none
@[go_sem] theorem Xxz {a n o s l}:LSz a n o s (.c .box l)=(part n o (Acz (CV.view s) 0 l)).bind fun l=>if a|| !(l.any CV.isDead)then some (mkSV a l)else none:=rfl
def loadAt (a:Bool) (n:Nat) (σ:St) (x:SV):Option SV:=
 match x with
 | .bp s o=>LSz a n o s (σ.getD s .undef)
 | .ep s o q kd fl es i f row=>if f+n≤row.length then
   (if a|| !((Cbz s o q fl i f ((row.drop f).take n)).any CV.isDead)then some (mkSV a (Cbz s o q fl i f ((row.drop f).take n)))else none)else none
 | .sp fl row f=>if f+n≤row.length then
   (if a|| !((((row.drop f).take n).map (PV.cellS fl)).any CV.isDead)then some (mkSV a (((row.drop f).take n).map (PV.cellS fl)))else none)else none
 |_=>none
@[go_sem] theorem Zuz {a n s o}:loadAt a n σ (.bp s o)=LSz a n o s (σ.getD s .undef):=rfl
@[go_sem] theorem Ztz {a n s o q kd fl es i f row}:loadAt a n σ (.ep s o q kd fl es i f row)=if f+n≤row.length then
   (if a|| !((Cbz s o q fl i f ((row.drop f).take n)).any CV.isDead)then some (mkSV a (Cbz s o q fl i f ((row.drop f).take n)))else none)else none:=rfl
@[go_sem] theorem Zsz {a n fl row f}:loadAt a n σ (.sp fl row f)=if f+n≤row.length then
   (if a|| !((((row.drop f).take n).map (PV.cellS fl)).any CV.isDead)then some (mkSV a (((row.drop f).take n).map (PV.cellS fl)))else none)else none:=rfl
@[go_sem ↓] theorem AF7z {x:SV}:C4z T σ t x=(T.sz t).bind fun n=>(T.ag t).bind fun a=>if a=false∧n≠1 then none else loadAt a n σ x:=by
 unfold C4z;congr 1
end
end
end Go.Proofs.YtblelojdboefjaaGreatDoor.R
namespace Go.Proofs.YtblelojdboefjaaGreatDoor.R
open Go
def Chk [a:Later]:Prop:=a.it
theorem chk {T:Tys} {ops:Array Oper} {P:Prop} (h:C6z T ops=true) (h2:P): @Chk ⟨C6z T ops=true⟩∧P:=⟨h,h2⟩
def F0z (E:Env) (call:CallF) (N:Nat) (ops:Array Oper) (o:Oper) (w:Bool) (σ:St):Option St:=
 match o.dst with
 |none=>none
 |some d=>if d<N∧plain (σ.getD d .undef)=true then
   (if w then(Aoz E call N o σ).map (drawn E.T ops.toList d)else some skipSV).bind fun v=>if(Cfz v&& !Aez o.op)=true then none else some (σ.set d v)
  else none
def Cez (E:Env) (call:CallF) (N:Nat) (ops:Array Oper):List Oper→St→Option St
 |[],σ=>some σ
 |o::r,σ=>if A2z E.T ops.toList o r then runL E call N ops (o::r) σ else(Asz N ops o σ).bind fun w=>(F0z E call N ops o w σ).bind fun σ=>Cez E call N ops r σ
def GQz (E:Env) (call:CallF) (N:Nat) (ops:Array Oper) (o:Oper) (r:List Oper) (σ:St):Option St:=
 (Asz N ops o σ).bind fun w=>(F0z E call N ops o w σ).bind fun σ=>Cez E call N ops r σ
section
variable {E:Env} {call:CallF} {N n:Nat} {σ:St} {K:Kont (Ex×St)} {L:Kont St} {d:Tmp} {ty:TypeId} {ps:String} {af:Array Edge} {gd:Option (Nat×Bool)}
theorem Htz {ops:Array Oper}:∀(r:List Oper) (k:Nat) (σ:St),ops.toList.drop k=r→((Drz E call N ops (List.range' k (Atz E.T ops.toList r)) σ).bind fun σ=>AYz E call N ops (List.range' (k+Atz E.T ops.toList r) (r.length - Atz E.T ops.toList r)) σ)=Cez E call N ops r σ
 |[],k,σ,h=>by simp[Drz,Cez,Atz,AYz]
 |o::r,k,σ,h=>by
  have hk:ops.toList[k]? =some o:=by
   have:=congrArg (fun l=>l[0]?) h
   simpa[List.getElem?_drop]using this
  have hd:ops.toList.drop (k+1)=r:=by
   have:=congrArg List.tail h
   simpa[List.tail_drop]using this
  simp only[Atz,Cez]
  by_cases ht:A2z E.T ops.toList o r=true
  ·simp only[ht,if_true,List.range'_zero,Drz,Option.bind_some,Nat.add_zero,Nat.sub_zero]
   exact Gqz (o::r) k σ h
  ·have hr:=fun σ=>Htz r (k+1) σ hd
   have e1:k+(Atz E.T ops.toList r+1)=k+1+Atz E.T ops.toList r:=by omega
   have e2:(o::r).length - (Atz E.T ops.toList r+1)=r.length - Atz E.T ops.toList r:=by simp
   simp only[ht,Bool.false_eq_true,if_false,e1,e2,List.range'_succ,Drz]
   rw[show ops[k]? =some o by simpa using hk]
   simp only[Option.bind_assoc]
   congr 1;funext w
   unfold F0z
   cases o.dst with
   |none=>rfl
   |some d=>
    simp only
    split
    ·cases (if w=true then(Aoz E call N o σ).map (drawn E.T ops.toList d)else some skipSV)with
     |none=>rfl
     |some v=>
      simp only[Option.bind_some]
      split
      ·rfl
      ·simp only[Option.bind_some];exact hr _
    ·rfl
theorem VTz {id:Nat} {ops:Array Oper} (hal:E.T.al=false): @Wq _ (AGz E call N n (.region id ops true) σ) K=(@Chk ⟨C6z E.T ops=true⟩∧ @Wq _ (Cez E call N ops ops.toList σ) ⟨fun σ=>K.run (.normal,σ)⟩):=by
 show Wp (AGz E call N n (.region id ops true) σ) K.run=(C6z E.T ops=true∧Wp (Cez E call N ops ops.toList σ) fun σ=>K.run (.normal,σ))
 simp only[AGz,if_true,hal,Bool.false_eq_true,if_false]
 have:=Htz (E:=E) (call:=call) (N:=N) ops.toList 0 σ rfl
 rw[Nat.zero_add]at this
 rw[List.range_eq_range',←this,Array.length_toList]
 by_cases h:C6z E.T ops=true
 ·simp[h,B3z]
 ·simp[h]
theorem W5z {id:Nat} {ops:Array Oper} (hal:E.T.al=true): @Wq _ (AGz E call N n (.region id ops true) σ) K= @Wq _ (Egz E call N ops σ) ⟨fun σ=>K.run (.normal,σ)⟩:=by
 show Wp (AGz E call N n (.region id ops true) σ) K.run=Wp (Egz E call N ops σ) fun σ=>K.run (.normal,σ)
 simp only[AGz,if_true,hal,B3z]
@[go_sem ↓] theorem AC2z {id:Nat} {ops:Array Oper}: @Wq _ (AGz E call N n (.region id ops true) σ) K= @Bq (E.T.al=true) ⟨@Wq _ (Egz E call N ops σ) ⟨fun σ=>K.run (.normal,σ)⟩⟩ ⟨@Chk ⟨C6z E.T ops=true⟩∧ @Wq _ (Cez E call N ops ops.toList σ) ⟨fun σ=>K.run (.normal,σ)⟩⟩:=by
 show _=Br (E.T.al=true) _ _
 by_cases h:E.T.al=true
 ·rw[W5z h]
  simp[h]
 ·rw[VTz (by simpa using h)]
  simp[h]
@[go_sem] theorem Xpz {ops:Array Oper} {s:St}: @Wq _ (ESz E call N ops [] s σ) L= @Wq _ (some s) L:=rfl
@[go_sem] theorem YXz {ops:Array Oper}: @Wq _ (AYz E call N ops [] σ) L= @Wq _ (some σ) L:=rfl
@[go_sem] theorem Xqz {ops:Array Oper} {i:Nat} {r:List Nat}: @Wq _ (AYz E call N ops (i::r) σ) L= @Wq _ (ops[i]?) ⟨fun o=> @Wq _ (runL E call N ops [o] σ) ⟨fun σ=> @Wq _ (AYz E call N ops r σ) L⟩⟩:=by
 show Wp (AYz E call N ops (i::r) σ) L.run=Wp (ops[i]?) fun o=>Wp (runL E call N ops [o] σ) fun σ=>Wp (AYz E call N ops r σ) L.run
 cases h:ops[i]? with
 |none=>simp only[AYz,h,C0z]
 |some o=>simp only[AYz,h,Agz,runL,CJz]
@[go_sem ↓] theorem ACsz {ops:Array Oper}: @Wq _ (Cez E call N ops [] σ) L= @Wq _ (some σ) L:=rfl
@[go_sem ↓] theorem AAkz {ops:Array Oper} {dd:Option Tmp} {op:Op} {gg:Option (Nat×Bool)} {r:List Oper}:
  @Wq _ (Cez E call N ops (⟨dd,op,ty,ps,af,gg⟩::r) σ) L= @Bq (A2z E.T ops.toList ⟨dd,op,ty,ps,af,gg⟩ r=true) ⟨@Wq _ (runL E call N ops (⟨dd,op,ty,ps,af,gg⟩::r) σ) L⟩ ⟨@Wq _ (GQz E call N ops ⟨dd,op,ty,ps,af,gg⟩ r σ) L⟩:=by
 show Wp (Cez E call N ops (⟨dd,op,ty,ps,af,gg⟩::r) σ) L.run=Br (A2z E.T ops.toList ⟨dd,op,ty,ps,af,gg⟩ r=true) (Wp (runL E call N ops (⟨dd,op,ty,ps,af,gg⟩::r) σ) L.run) (Wp (GQz E call N ops ⟨dd,op,ty,ps,af,gg⟩ r σ) L.run)
 simp only[Cez,DNz]
 rfl
@[go_sem ↓] theorem ACtz {ops:Array Oper} {op:Op} {r:List Oper}:
  @Wq _ (GQz E call N ops ⟨some d,op,ty,ps,af,none⟩ r σ) L= @Wq _ (some σ) ⟨fun σ=> @Bq (d<N∧plain (σ.getD d .undef)=true) ⟨@Wq _ (Aoz E call N ⟨some d,op,ty,ps,af,none⟩ σ) ⟨fun v=> @Wq _ (some (drawn E.T ops.toList d v)) ⟨fun v=> @Bq ((Cfz v&& !Aez op)=true) ⟨False⟩ ⟨@Wq _ (some (σ.set d v)) ⟨fun σ=> @Wq _ (Cez E call N ops r σ) L⟩⟩⟩⟩⟩ ⟨False⟩⟩:=by
 show Wp (GQz E call N ops ⟨some d,op,ty,ps,af,none⟩ r σ) L.run=Wp (some σ) fun σ=>Br (d<N∧plain (σ.getD d .undef)=true) (Wp (Aoz E call N ⟨some d,op,ty,ps,af,none⟩ σ) fun v=>Wp (some (drawn E.T ops.toList d v)) fun v=>Br ((Cfz v&& !Aez op)=true) False (Wp (some (σ.set d v)) fun σ=>Wp (Cez E call N ops r σ) L.run)) False
 simp only[GQz,Asz,Option.bind_some,CJz,B3z,F0z,DNz,Agz,if_true,C0z]
@[go_sem ↓] theorem WHz {ops:Array Oper} {j:Nat} {want:Bool} {op:Op} {r:List Oper}:
  @Wq _ (GQz E call N ops ⟨some d,op,ty,ps,af,some (j,want)⟩ r σ) L= @Wq _ (some σ) ⟨fun σ=> @Wq _ ((ops[j]?).bind (·.dst)) ⟨fun t=> @Bq (t<N∧d<N∧plain (σ.getD d .undef)=true) ⟨@Wq _ (gval (σ.getD t .undef)) ⟨fun b=>
   @Bq (b=some want) ⟨@Wq _ (Aoz E call N ⟨some d,op,ty,ps,af,some (j,want)⟩ σ) ⟨fun v=> @Wq _ (some (drawn E.T ops.toList d v)) ⟨fun v=> @Bq ((Cfz v&& !Aez op)=true) ⟨False⟩ ⟨@Wq _ (some (σ.set d v)) ⟨fun σ=> @Wq _ (Cez E call N ops r σ) L⟩⟩⟩⟩⟩ ⟨@Wq _ (some (σ.set d skipSV)) ⟨fun σ=> @Wq _ (Cez E call N ops r σ) L⟩⟩⟩⟩ ⟨False⟩⟩⟩:=by
 show Wp (GQz E call N ops ⟨some d,op,ty,ps,af,some (j,want)⟩ r σ) L.run=Wp (some σ) fun σ=>Wp ((ops[j]?).bind (·.dst)) fun t=>Br (t<N∧d<N∧plain (σ.getD d .undef)=true) (Wp (gval (σ.getD t .undef)) fun b=>
   Br (b=some want) (Wp (Aoz E call N ⟨some d,op,ty,ps,af,some (j,want)⟩ σ) fun v=>Wp (some (drawn E.T ops.toList d v)) fun v=>Br ((Cfz v&& !Aez op)=true) False (Wp (some (σ.set d v)) fun σ=>Wp (Cez E call N ops r σ) L.run)) (Wp (some (σ.set d skipSV)) fun σ=>Wp (Cez E call N ops r σ) L.run)) False
 simp only[GQz,Asz,CJz,Agz,F0z]
 generalize Aoz E call N ⟨some d,op,ty,ps,af,some (j,want)⟩ σ=po
 cases ops[j]? with
 |none=>simp
 |some o=>
  simp only[Agz]
  cases o.dst with
  |none=>simp
  |some t=>
   simp only[Agz]
   by_cases ht:t<N
   ·by_cases hd:d<N∧plain (σ.getD d .undef)=true
    ·have hb:(Cfz skipSV&& !Aez op)=false:=rfl
     simp only[ht,hd.1,hd.2,and_self,if_true,B3z,CJz,DNz,Agz,C0z,Chz,hb,Bool.false_eq_true,if_false]
     congr 1;funext b
     by_cases hw:b=some want
     ·simp[hw]
     ·simp[hw,hb]
    ·have:(t<N∧d<N∧plain (σ.getD d .undef)=true)=False:=by simp only[eq_iff_iff,iff_false];exact fun h=>hd h.2
     rw[this,Hoz]
     simp only[ht,hd,if_true,if_false,C0z,B3z]
     simp[Wp]
   ·simp[ht,Wp,Br]
@[go_sem ↓] theorem ZMz {t}:Aoz E call N ⟨some d,.alloc t,ty,ps,af,gd⟩ σ=(E.T.zr t).map fun z=> .c .box (z.map (PV.cv false)):=rfl
@[go_sem] theorem Z8z {l}:Cfz (.c .box l)=true:=rfl
@[go_sem] theorem X3z {x} {T:Tys} {os:List Oper} {dd:Option Tmp} {r:List Oper}:A2z T os ⟨dd,(.move x),ty,ps,af,gd⟩ r=false:=rfl
@[go_sem] theorem XRz {x} {dd:Option Tmp} {r:List Oper}:Awz (⟨dd,(.move x),ty,ps,af,gd⟩::r)=false:=rfl
@[go_sem] theorem XNz {x}:Aez (.move x)=false:=rfl
@[go_sem ↓] theorem AAJz {x}:Aoz E call N ⟨some d,.move x,ty,ps,af,gd⟩ σ=ALz E call N ⟨some d,.move x,ty,ps,af,gd⟩ σ:=rfl
@[go_sem] theorem WLz {x} {T:Tys} {os:List Oper} {dd:Option Tmp} {r:List Oper}:A2z T os ⟨dd,(.assign x),ty,ps,af,gd⟩ r=((r.isEmpty|| !Fyz T ty&&r.all Qnz)&&decide (os.length≤af.size+1+r.length)):=rfl
@[go_sem] theorem ACoz {α:Type} {l:List α}:Array.size ⟨l⟩=l.length:=rfl
@[go_sem] theorem Vqz {x} {dd:Option Tmp} {r:List Oper}:Awz (⟨dd,(.assign x),ty,ps,af,gd⟩::r)=false:=rfl
@[go_sem] theorem Vlz {x}:Aez (.assign x)=false:=rfl
@[go_sem ↓] theorem YSz {x}:Aoz E call N ⟨some d,.assign x,ty,ps,af,gd⟩ σ=ALz E call N ⟨some d,.assign x,ty,ps,af,gd⟩ σ:=rfl
@[go_sem] theorem X2z {c a b} {T:Tys} {os:List Oper} {dd:Option Tmp} {r:List Oper}:A2z T os ⟨dd,(.pick c a b),ty,ps,af,gd⟩ r=false:=rfl
@[go_sem] theorem XQz {c a b} {dd:Option Tmp} {r:List Oper}:Awz (⟨dd,(.pick c a b),ty,ps,af,gd⟩::r)=false:=rfl
@[go_sem] theorem XMz {c a b}:Aez (.pick c a b)=false:=rfl
@[go_sem ↓] theorem AAIz {c a b}:Aoz E call N ⟨some d,.pick c a b,ty,ps,af,gd⟩ σ=ALz E call N ⟨some d,.pick c a b,ty,ps,af,gd⟩ σ:=rfl
@[go_sem] theorem Y6z {op t x y u} {T:Tys} {os:List Oper} {dd:Option Tmp} {r:List Oper}:A2z T os ⟨dd,(.binOp op t x y u),ty,ps,af,gd⟩ r=false:=rfl
@[go_sem] theorem YHz {op t x y u} {dd:Option Tmp} {r:List Oper}:Awz (⟨dd,(.binOp op t x y u),ty,ps,af,gd⟩::r)=false:=rfl
@[go_sem] theorem YBz {op t x y u}:Aez (.binOp op t x y u)=false:=rfl
@[go_sem ↓] theorem ABOz {op t x y u}:Aoz E call N ⟨some d,.binOp op t x y u,ty,ps,af,gd⟩ σ=ALz E call N ⟨some d,.binOp op t x y u,ty,ps,af,gd⟩ σ:=rfl
@[go_sem] theorem Z3z {op t x} {T:Tys} {os:List Oper} {dd:Option Tmp} {r:List Oper}:A2z T os ⟨dd,(.unOp op t x),ty,ps,af,gd⟩ r=false:=rfl
@[go_sem] theorem Y9z {op t x} {dd:Option Tmp} {r:List Oper}:Awz (⟨dd,(.unOp op t x),ty,ps,af,gd⟩::r)=false:=rfl
@[go_sem] theorem Y8z {op t x}:Aez (.unOp op t x)=false:=rfl
@[go_sem ↓] theorem ADnz {op t x}:Aoz E call N ⟨some d,.unOp op t x,ty,ps,af,gd⟩ σ=ALz E call N ⟨some d,.unOp op t x,ty,ps,af,gd⟩ σ:=rfl
@[go_sem] theorem X5z {s t x} {T:Tys} {os:List Oper} {dd:Option Tmp} {r:List Oper}:A2z T os ⟨dd,(.convert s t x),ty,ps,af,gd⟩ r=false:=rfl
@[go_sem] theorem XTz {s t x} {dd:Option Tmp} {r:List Oper}:Awz (⟨dd,(.convert s t x),ty,ps,af,gd⟩::r)=false:=rfl
@[go_sem] theorem XPz {s t x}:Aez (.convert s t x)=false:=rfl
@[go_sem ↓] theorem AALz {s t x}:Aoz E call N ⟨some d,.convert s t x,ty,ps,af,gd⟩ σ=ALz E call N ⟨some d,.convert s t x,ty,ps,af,gd⟩ σ:=rfl
@[go_sem] theorem UIz {t x f} {T:Tys} {os:List Oper} {dd:Option Tmp} {r:List Oper}:A2z T os ⟨dd,(.fieldAddr t x f),ty,ps,af,gd⟩ r=false:=rfl
@[go_sem] theorem TIz {t x f} {dd:Option Tmp} {r:List Oper}:Awz (⟨dd,(.fieldAddr t x f),ty,ps,af,gd⟩::r)=false:=rfl
@[go_sem] theorem TFz {t x f}:Aez (.fieldAddr t x f)=false:=rfl
@[go_sem ↓] theorem Vzz {t x f}:Aoz E call N ⟨some d,.fieldAddr t x f,ty,ps,af,gd⟩ σ=ALz E call N ⟨some d,.fieldAddr t x f,ty,ps,af,gd⟩ σ:=rfl
@[go_sem] theorem UHz {t x i} {T:Tys} {os:List Oper} {dd:Option Tmp} {r:List Oper}:A2z T os ⟨dd,(.indexAddr t x i),ty,ps,af,gd⟩ r=false:=rfl
@[go_sem] theorem THz {t x i} {dd:Option Tmp} {r:List Oper}:Awz (⟨dd,(.indexAddr t x i),ty,ps,af,gd⟩::r)=false:=rfl
@[go_sem] theorem TEz {t x i}:Aez (.indexAddr t x i)=false:=rfl
@[go_sem ↓] theorem Vyz {t x i}:Aoz E call N ⟨some d,.indexAddr t x i,ty,ps,af,gd⟩ σ=ALz E call N ⟨some d,.indexAddr t x i,ty,ps,af,gd⟩ σ:=rfl
@[go_sem] theorem XJz {t x i} {T:Tys} {os:List Oper} {dd:Option Tmp} {r:List Oper}:A2z T os ⟨dd,(.index t x i),ty,ps,af,gd⟩ r=false:=rfl
@[go_sem] theorem WVz {t x i} {dd:Option Tmp} {r:List Oper}:Awz (⟨dd,(.index t x i),ty,ps,af,gd⟩::r)=false:=rfl
@[go_sem] theorem WPz {t x i}:Aez (.index t x i)=false:=rfl
@[go_sem ↓] theorem ZKz {t x i}:Aoz E call N ⟨some d,.index t x i,ty,ps,af,gd⟩ σ=ALz E call N ⟨some d,.index t x i,ty,ps,af,gd⟩ σ:=rfl
@[go_sem] theorem X4z {t x} {T:Tys} {os:List Oper} {dd:Option Tmp} {r:List Oper}:A2z T os ⟨dd,(.load t x),ty,ps,af,gd⟩ r=false:=rfl
@[go_sem] theorem XSz {t x} {dd:Option Tmp} {r:List Oper}:Awz (⟨dd,(.load t x),ty,ps,af,gd⟩::r)=false:=rfl
@[go_sem] theorem XOz {t x}:Aez (.load t x)=false:=rfl
@[go_sem ↓] theorem AAKz {t x}:Aoz E call N ⟨some d,.load t x,ty,ps,af,gd⟩ σ=ALz E call N ⟨some d,.load t x,ty,ps,af,gd⟩ σ:=rfl
@[go_sem] theorem Vkz {x i} {T:Tys} {os:List Oper} {dd:Option Tmp} {r:List Oper}:A2z T os ⟨dd,(.extract x i),ty,ps,af,gd⟩ r=false:=rfl
@[go_sem] theorem U1z {x i} {dd:Option Tmp} {r:List Oper}:Awz (⟨dd,(.extract x i),ty,ps,af,gd⟩::r)=false:=rfl
@[go_sem] theorem U0z {x i}:Aez (.extract x i)=false:=rfl
@[go_sem ↓] theorem Xaz {x i}:Aoz E call N ⟨some d,.extract x i,ty,ps,af,gd⟩ σ=ALz E call N ⟨some d,.extract x i,ty,ps,af,gd⟩ σ:=rfl
@[go_sem] theorem XIz {t x lo hi m} {T:Tys} {os:List Oper} {dd:Option Tmp} {r:List Oper}:A2z T os ⟨dd,(.slice t x lo hi m),ty,ps,af,gd⟩ r=false:=rfl
@[go_sem] theorem WUz {t x lo hi m} {dd:Option Tmp} {r:List Oper}:Awz (⟨dd,(.slice t x lo hi m),ty,ps,af,gd⟩::r)=false:=rfl
@[go_sem] theorem WOz {t x lo hi m}:Aez (.slice t x lo hi m)=false:=rfl
@[go_sem ↓] theorem ZJz {t x lo hi m}:Aoz E call N ⟨some d,.slice t x lo hi m,ty,ps,af,gd⟩ σ=ALz E call N ⟨some d,.slice t x lo hi m,ty,ps,af,gd⟩ σ:=rfl
@[go_sem] theorem Uyz {x} {T:Tys} {os:List Oper} {dd:Option Tmp} {r:List Oper}:A2z T os ⟨dd,(.nilCheck x),ty,ps,af,gd⟩ r=false:=rfl
@[go_sem] theorem UOz {x} {dd:Option Tmp} {r:List Oper}:Awz (⟨dd,(.nilCheck x),ty,ps,af,gd⟩::r)=false:=rfl
@[go_sem] theorem UJz {x}:Aez (.nilCheck x)=false:=rfl
@[go_sem ↓] theorem Wfz {x}:Aoz E call N ⟨some d,.nilCheck x,ty,ps,af,gd⟩ σ=ALz E call N ⟨some d,.nilCheck x,ty,ps,af,gd⟩ σ:=rfl
@[go_sem] theorem XKz {t p} {T:Tys} {os:List Oper} {dd:Option Tmp} {r:List Oper}:A2z T os ⟨dd,(.build t p),ty,ps,af,gd⟩ r=false:=rfl
@[go_sem] theorem WWz {t p} {dd:Option Tmp} {r:List Oper}:Awz (⟨dd,(.build t p),ty,ps,af,gd⟩::r)=false:=rfl
@[go_sem] theorem WQz {t p}:Aez (.build t p)=false:=rfl
@[go_sem ↓] theorem ZLz {t p}:Aoz E call N ⟨some d,.build t p,ty,ps,af,gd⟩ σ=ALz E call N ⟨some d,.build t p,ty,ps,af,gd⟩ σ:=rfl
@[go_sem] theorem Uzz {g a b} {T:Tys} {os:List Oper} {dd:Option Tmp} {r:List Oper}:A2z T os ⟨dd,(.makeFunc g a b),ty,ps,af,gd⟩ r=false:=rfl
@[go_sem] theorem UPz {g a b} {dd:Option Tmp} {r:List Oper}:Awz (⟨dd,(.makeFunc g a b),ty,ps,af,gd⟩::r)=false:=rfl
@[go_sem] theorem UKz {g a b}:Aez (.makeFunc g a b)=false:=rfl
@[go_sem ↓] theorem Wgz {g a b}:Aoz E call N ⟨some d,.makeFunc g a b,ty,ps,af,gd⟩ σ=ALz E call N ⟨some d,.makeFunc g a b,ty,ps,af,gd⟩ σ:=rfl
@[go_sem] theorem UGz {t a b} {T:Tys} {os:List Oper} {dd:Option Tmp} {r:List Oper}:A2z T os ⟨dd,(.makeSlice t a b),ty,ps,af,gd⟩ r=false:=rfl
@[go_sem] theorem TGz {t a b} {dd:Option Tmp} {r:List Oper}:Awz (⟨dd,(.makeSlice t a b),ty,ps,af,gd⟩::r)=false:=rfl
@[go_sem] theorem TDz {t a b}:Aez (.makeSlice t a b)=false:=rfl
@[go_sem ↓] theorem Vxz {t a b}:Aoz E call N ⟨some d,.makeSlice t a b,ty,ps,af,gd⟩ σ=ALz E call N ⟨some d,.makeSlice t a b,ty,ps,af,gd⟩ σ:=rfl
@[go_sem] theorem SSz {t a b}:Aez (.buildSlice t a b)=false:=rfl
@[go_sem ↓] theorem U3z {t a b}:Aoz E call N ⟨some d,.buildSlice t a b,ty,ps,af,gd⟩ σ=ALz E call N ⟨some d,.buildSlice t a b,ty,ps,af,gd⟩ σ:=rfl
@[go_sem] theorem Y4z {a b} {T:Tys} {os:List Oper} {dd:Option Tmp} {r:List Oper}:A2z T os ⟨dd,(.call ⟨.builtin .len,a,b⟩),ty,ps,af,gd⟩ r=false:=rfl
@[go_sem] theorem YFz {a b} {dd:Option Tmp} {r:List Oper}:Awz (⟨dd,(.call ⟨.builtin .len,a,b⟩),ty,ps,af,gd⟩::r)=false:=rfl
@[go_sem] theorem X9z {a b}:Aez (.call ⟨.builtin .len,a,b⟩)=false:=rfl
@[go_sem ↓] theorem ABMz {a b}:Aoz E call N ⟨some d,.call ⟨.builtin .len,a,b⟩,ty,ps,af,gd⟩ σ=ALz E call N ⟨some d,.call ⟨.builtin .len,a,b⟩,ty,ps,af,gd⟩ σ:=rfl
@[go_sem] theorem Y2z {a b} {T:Tys} {os:List Oper} {dd:Option Tmp} {r:List Oper}:A2z T os ⟨dd,(.call ⟨.builtin .min,a,b⟩),ty,ps,af,gd⟩ r=false:=rfl
@[go_sem] theorem YDz {a b} {dd:Option Tmp} {r:List Oper}:Awz (⟨dd,(.call ⟨.builtin .min,a,b⟩),ty,ps,af,gd⟩::r)=false:=rfl
@[go_sem] theorem X7z {a b}:Aez (.call ⟨.builtin .min,a,b⟩)=false:=rfl
@[go_sem ↓] theorem ABKz {a b}:Aoz E call N ⟨some d,.call ⟨.builtin .min,a,b⟩,ty,ps,af,gd⟩ σ=ALz E call N ⟨some d,.call ⟨.builtin .min,a,b⟩,ty,ps,af,gd⟩ σ:=rfl
@[go_sem] theorem Y3z {a b} {T:Tys} {os:List Oper} {dd:Option Tmp} {r:List Oper}:A2z T os ⟨dd,(.call ⟨.builtin .max,a,b⟩),ty,ps,af,gd⟩ r=false:=rfl
@[go_sem] theorem YEz {a b} {dd:Option Tmp} {r:List Oper}:Awz (⟨dd,(.call ⟨.builtin .max,a,b⟩),ty,ps,af,gd⟩::r)=false:=rfl
@[go_sem] theorem X8z {a b}:Aez (.call ⟨.builtin .max,a,b⟩)=false:=rfl
@[go_sem ↓] theorem ABLz {a b}:Aoz E call N ⟨some d,.call ⟨.builtin .max,a,b⟩,ty,ps,af,gd⟩ σ=ALz E call N ⟨some d,.call ⟨.builtin .max,a,b⟩,ty,ps,af,gd⟩ σ:=rfl
@[go_sem] theorem XGz {f a b} {T:Tys} {os:List Oper} {dd:Option Tmp} {r:List Oper}:A2z T os ⟨dd,(.call ⟨.value f,a,b⟩),ty,ps,af,gd⟩ r=if ty=0 then true else false:=rfl
@[go_sem] theorem WSz {f a b} {dd:Option Tmp} {r:List Oper}:Awz (⟨dd,(.call ⟨.value f,a,b⟩),ty,ps,af,gd⟩::r)=false:=rfl
@[go_sem] theorem WNz {f a b}:Aez (.call ⟨.value f,a,b⟩)=false:=rfl
@[go_sem ↓] theorem ZIz {f a b}:Aoz E call N ⟨some d,.call ⟨.value f,a,b⟩,ty,ps,af,gd⟩ σ=ALz E call N ⟨some d,.call ⟨.value f,a,b⟩,ty,ps,af,gd⟩ σ:=rfl
@[go_sem] theorem Y5z {t x} {T:Tys} {os:List Oper} {dd:Option Tmp} {r:List Oper}:A2z T os ⟨dd,(.box t x),ty,ps,af,gd⟩ r=false:=rfl
@[go_sem] theorem YGz {t x} {dd:Option Tmp} {r:List Oper}:Awz (⟨dd,(.box t x),ty,ps,af,gd⟩::r)=false:=rfl
@[go_sem] theorem YAz {t x}:Aez (.box t x)=false:=rfl
@[go_sem ↓] theorem ABNz {t x}:Aoz E call N ⟨some d,.box t x,ty,ps,af,gd⟩ σ=ALz E call N ⟨some d,.box t x,ty,ps,af,gd⟩ σ:=rfl
@[go_sem] theorem XLz {t} {T:Tys} {os:List Oper} {dd:Option Tmp} {r:List Oper}:A2z T os ⟨dd,(.alloc t),ty,ps,af,gd⟩ r=false:=rfl
@[go_sem] theorem WXz {t} {dd:Option Tmp} {r:List Oper}:Awz (⟨dd,(.alloc t),ty,ps,af,gd⟩::r)=false:=rfl
@[go_sem] theorem WRz {t}:Aez (.alloc t)=true:=rfl
@[go_sem] theorem WMz {a b} {T:Tys} {os:List Oper} {dd:Option Tmp} {r:List Oper}:A2z T os ⟨dd,(.call ⟨.builtin .append,a,b⟩),ty,ps,af,gd⟩ r=true:=rfl
@[go_sem] theorem Vrz {a b} {dd:Option Tmp} {r:List Oper}:Awz (⟨dd,(.call ⟨.builtin .append,a,b⟩),ty,ps,af,gd⟩::r)=true:=rfl
@[go_sem] theorem TCz {t a b} {T:Tys} {os:List Oper} {dd:Option Tmp} {r:List Oper}:A2z T os ⟨dd,(.buildSlice t a b),ty,ps,af,gd⟩ r=(Awz r&& !Ggz T os b.toList):=rfl
attribute [go_sem] Qnz Ggz Jdz Fyz Sjz feeds Lbz
@[go_sem] theorem Z2z {d t:Nat}:Khz d (.tmp t)=decide (t=d):=rfl
@[go_sem] theorem X1z {d:Nat} {v:Value}:Khz d (.const v)=false:=rfl
@[go_sem] theorem Y1z {d:Nat} {v:FuncId}:Khz d (.func v)=false:=rfl
@[go_sem] theorem YRz {T os d}:drawn T os d .undef= .undef:=by unfold drawn;split<;>rfl
@[go_sem] theorem ZGz {T os d}:drawn T os d skipSV=skipSV:=by unfold drawn;split<;>rfl
@[go_sem] theorem ABEz {T os d f p}:drawn T os d (.c .one [.sh f p])= .c .one [.sh f p]:=by unfold drawn;split<;>rfl
@[go_sem] theorem ABIz {T os d s o q kd lo f es rows}:drawn T os d (.c .one [.br s o q kd lo f es rows])= .c .one [.br s o q kd lo f es rows]:=by unfold drawn;split<;>rfl
@[go_sem] theorem ZHz {T os d}:drawn T os d (.c .one [.dead])= .c .one [.dead]:=by unfold drawn;split<;>rfl
@[go_sem] theorem AAHz {T os d l}:drawn T os d (.c .agg l)= .c .agg l:=by unfold drawn;split<;>rfl
@[go_sem] theorem AAGz {T os d l}:drawn T os d (.c .box l)= .c .box l:=by unfold drawn;split<;>rfl
@[go_sem] theorem AAFz {T os d s l}:drawn T os d (.c (.tup s) l)= .c (.tup s) l:=by unfold drawn;split<;>rfl
@[go_sem] theorem ABJz {T os d s o}:drawn T os d (.bp s o)= .bp s o:=by unfold drawn;split<;>rfl
@[go_sem] theorem ABHz {T os d s o q kd fl es i f row}:drawn T os d (.ep s o q kd fl es i f row)= .ep s o q kd fl es i f row:=by unfold drawn;split<;>rfl
@[go_sem] theorem ABDz {T os d fl row f}:drawn T os d (.sp fl row f)= .sp fl row f:=by unfold drawn;split<;>rfl
@[go_sem] theorem ABGz {T os d g caps}:drawn T os d (.fn g caps)= .fn g caps:=by unfold drawn;split<;>rfl
@[go_sem] theorem ABFz {T os d f es rows}:drawn T os d (.c .one [.ow f es rows])=if feeds T os d=true then .c .one [.sh f (.s es (Adz rows))]else .c .one [.ow f es rows]:=rfl
@[go_sem] theorem XZz {T:Tys} {os:List Oper} {t:Nat}:GAz T os (.tmp t)=Jdz T os t:=rfl
@[go_sem] theorem Vsz {T:Tys} {os:List Oper} {v:Value}:GAz T os (.const v)=true:=rfl
@[go_sem] theorem Wcz {T:Tys} {os:List Oper} {v:FuncId}:GAz T os (.func v)=false:=rfl
@[go_sem] theorem Wbz {T:Tys} {os:List Oper} {v}:GAz T os (.global v)=false:=rfl
@[go_sem] theorem AAgz {a b:Nat}:(some a==some b)=(a==b):=rfl
@[go_sem] theorem AAyz {a:Nat}:((none:Option Nat)==some a)=false:=rfl
@[go_sem] theorem Sbz {t a b} {dd:Option Tmp} {r:List Oper}:Awz (⟨dd,(.buildSlice t a b),ty,ps,af,gd⟩::r)=false:=rfl
@[go_sem] theorem YCz:Awz []=false:=rfl
@[go_sem] theorem XHz {t a x} {T:Tys} {os:List Oper} {dd:Option Tmp} {r:List Oper}:A2z T os ⟨dd,(.store t a x),ty,ps,af,gd⟩ r=true:=rfl
@[go_sem] theorem WTz {t a x} {dd:Option Tmp} {r:List Oper}:Awz (⟨dd,(.store t a x),ty,ps,af,gd⟩::r)=false:=rfl
@[go_sem ↓] theorem AC5z {x}:ALz E call N ⟨some d,.move x,ty,ps,af,gd⟩ σ=some (opd E.T N ty σ x):=rfl
@[go_sem ↓] theorem Zgz {x}:ALz E call N ⟨some d,.assign x,ty,ps,af,gd⟩ σ=asgP (opd E.T N ty σ x):=rfl
attribute [go_sem] asgP
@[go_sem ↓] theorem AC4z {c a b}:ALz E call N ⟨some d,.pick c a b,ty,ps,af,gd⟩ σ=(opd E.T N ty σ c).bool?.map fun t=>if t then opd E.T N ty σ a else opd E.T N ty σ b:=rfl
@[go_sem ↓] theorem AF2z {op t x y u}:ALz E call N ⟨some d,.binOp op t x y u,ty,ps,af,gd⟩ σ=(A7z E.T op t (opd E.T N ty σ x) (opd E.T N ty σ y)).map pvSV:=rfl
@[go_sem ↓] theorem AJFz {op t x}:ALz E call N ⟨some d,.unOp op t x,ty,ps,af,gd⟩ σ=(unSV op (opd E.T N ty σ x)).map pvSV:=rfl
@[go_sem ↓] theorem AC7z {s t x}:ALz E call N ⟨some d,.convert s t x,ty,ps,af,gd⟩ σ=GEz E.T s t (opd E.T N ty σ x):=rfl
@[go_sem ↓] theorem W8z {t x f}:ALz E call N ⟨some d,.fieldAddr t x f,ty,ps,af,gd⟩ σ=EWz E.T t (opd E.T N ty σ x) f:=rfl
@[go_sem ↓] theorem W7z {t x i}:ALz E call N ⟨some d,.indexAddr t x i,ty,ps,af,gd⟩ σ=E3z E.T t (opd E.T N ty σ x) (opd E.T N ty σ i):=rfl
@[go_sem ↓] theorem AAqz {t x i}:ALz E call N ⟨some d,.index t x i,ty,ps,af,gd⟩ σ=GFz E.T t (opd E.T N ty σ x) (opd E.T N ty σ i):=rfl
@[go_sem ↓] theorem AC6z {t x}:ALz E call N ⟨some d,.load t x,ty,ps,af,gd⟩ σ=C4z E.T σ t (opd E.T N ty σ x):=rfl
@[go_sem ↓] theorem Yoz {x i}:ALz E call N ⟨some d,.extract x i,ty,ps,af,gd⟩ σ=Mhz (opd E.T N ty σ x) i:=rfl
@[go_sem ↓] theorem AApz {t x lo hi}:ALz E call N ⟨some d,.slice t x lo hi none,ty,ps,af,gd⟩ σ=Ewz E.T t (opd E.T N ty σ x) (lo.map (opd E.T N ty σ)) (hi.map (opd E.T N ty σ)):=rfl
@[go_sem ↓] theorem Xtz {x}:ALz E call N ⟨some d,.nilCheck x,ty,ps,af,gd⟩ σ=if EVz (opd E.T N ty σ x)then some (opd E.T N ty σ x)else none:=rfl
@[go_sem ↓] theorem AArz {t ps'}:ALz E call N ⟨some d,.build t ps',ty,ps,af,gd⟩ σ=(E.T.zr t).bind fun z=>(E.T.ag t).bind fun a=>if a then(Dkz E.T t (ps'.toList.map fun p=>(p.1,opd E.T N ty σ p.2)) (z.map (PV.cv false))).map fun l=> .c .agg l else none:=rfl
@[go_sem ↓] theorem W6z {t n m}:ALz E call N ⟨some d,.makeSlice t n m,ty,ps,af,gd⟩ σ=KZz E.T t (opd E.T N ty σ n) (opd E.T N ty σ m):=rfl
@[go_sem ↓] theorem AF1z {x t}:ALz E call N ⟨some d,.call ⟨.builtin .len,#[x],#[t]⟩,ty,ps,af,gd⟩ σ=Fjz E.T t (opd E.T N ty σ x):=rfl
@[go_sem ↓] theorem AFzz {x y ts}:ALz E call N ⟨some d,.call ⟨.builtin .min,#[x,y],ts⟩,ty,ps,af,gd⟩ σ=min2 (opd E.T N ty σ x) (opd E.T N ty σ y):=by
 show Cpz min2 (opd E.T N ty σ x) [opd E.T N ty σ y]=_
 simp only[Cpz];cases min2 (opd E.T N ty σ x) (opd E.T N ty σ y)<;>rfl
@[go_sem ↓] theorem AF0z {x y ts}:ALz E call N ⟨some d,.call ⟨.builtin .max,#[x,y],ts⟩,ty,ps,af,gd⟩ σ=max2 (opd E.T N ty σ x) (opd E.T N ty σ y):=by
 show Cpz max2 (opd E.T N ty σ x) [opd E.T N ty σ y]=_
 simp only[Cpz];cases max2 (opd E.T N ty σ x) (opd E.T N ty σ y)<;>rfl
def F1z (E:Env) (call:CallF) (N:Nat) (ty:TypeId) (σ:St) (g:FuncId) (xs:List Operand):Option SV:=
 if ((xs.map (opd E.T N ty σ)).flatMap Ajz).isEmpty then (Aaz 0 (xs.map (opd E.T N ty σ))).bind fun q => (call g q.1 []).bind fun r =>
     if r.boxes.length=0∧(r.res.cells.any CV.flag&& !q.2.1.isEmpty)=false∧CSz r.res=true∧r.res.cells.all noBr=true then some (r.res.reflag q.2.2)else none
    else none
@[go_sem ↓] theorem AC8z {g:FuncId} {xs:Array Operand} {ts}:ALz E call N ⟨some d,.call ⟨.value (.func g),xs,ts⟩,ty,ps,af,gd⟩ σ=Fdz (E.T.so g) (fun _=>none) (F1z E call N ty σ g xs.toList):=by
 have hp:ALz E call N ⟨some d,.call ⟨.value (.func g),xs,ts⟩,ty,ps,af,gd⟩ σ=if(E.T.so g).isSome then none else F1z E call N ty σ g xs.toList:=rfl
 rw[hp]
 cases E.T.so g<;>rfl
@[go_sem ↓] theorem Ynz {g:FuncId} {xs:List Operand} {M:Kont SV}: @Wq _ (F1z E call N ty σ g xs) M= @Wq _ (some (xs.map (opd E.T N ty σ))) ⟨fun vs=> @Bq ((vs.flatMap Ajz).isEmpty=true)
  ⟨@Wq _ (Aaz 0 vs) ⟨fun q=> @Wq _ (call g q.1 []) ⟨fun r=> @Bq (r.boxes.length=0∧(r.res.cells.any CV.flag&& !q.2.1.isEmpty)=false∧CSz r.res=true∧r.res.cells.all noBr=true) ⟨@Wq _ (some (r.res.reflag q.2.2)) M⟩ ⟨False⟩⟩⟩⟩ ⟨False⟩⟩:=by
 show Wp (F1z E call N ty σ g xs) M.run=Wp (some (xs.map (opd E.T N ty σ))) fun vs=>Br ((vs.flatMap Ajz).isEmpty=true) (Wp (Aaz 0 vs) fun q=>Wp (call g q.1 []) fun r=>Br (r.boxes.length=0∧(r.res.cells.any CV.flag&& !q.2.1.isEmpty)=false∧CSz r.res=true∧r.res.cells.all noBr=true) (Wp (some (r.res.reflag q.2.2)) M.run) False) False
 unfold F1z
 simp only[Agz,DNz,CJz,C0z]
@[go_sem] theorem Yqz:plain skipSV=true:=rfl
@[go_sem] theorem Y7z:Cfz skipSV=false:=rfl
@[go_sem] theorem Xuz:plain .undef=true:=rfl
@[go_sem] theorem Ziz {l}:plain (.c .one l)=l.all fun c=> !c.isOw:=rfl
@[go_sem] theorem Zkz {l}:plain (.c .agg l)=l.all fun c=> !c.isOw:=rfl
@[go_sem] theorem Zhz {s l}:plain (.c (.tup s) l)=l.all fun c=> !c.isOw:=rfl
@[go_sem] theorem AAvz {s o}:plain (.bp s o)=true:=rfl
@[go_sem] theorem AAuz {s o q kd fl es i f row}:plain (.ep s o q kd fl es i f row)=true:=rfl
@[go_sem] theorem AAsz {fl row f}:plain (.sp fl row f)=true:=rfl
@[go_sem] theorem AAtz {g caps}:plain (.fn g caps)=true:=rfl
@[go_sem] theorem X6z:Cfz .undef=false:=rfl
@[go_sem] theorem Z7z {l}:Cfz (.c .one l)=false:=rfl
@[go_sem] theorem Z9z {l}:Cfz (.c .agg l)=false:=rfl
@[go_sem] theorem Z6z {s l}:Cfz (.c (.tup s) l)=false:=rfl
@[go_sem] theorem AA5z {s o}:Cfz (.bp s o)=false:=rfl
@[go_sem] theorem AA4z {s o q kd fl es i f row}:Cfz (.ep s o q kd fl es i f row)=false:=rfl
@[go_sem] theorem AA2z {fl row f}:Cfz (.sp fl row f)=false:=rfl
@[go_sem] theorem AA3z {g caps}:Cfz (.fn g caps)=false:=rfl
end
end Go.Proofs.YtblelojdboefjaaGreatDoor.R
namespace Go.Proofs.YtblelojdboefjaaGreatDoor.R
open Go
theorem R6z {c:CV} {σ:St} {q:St×Bool×PV} (h:nest c []=some q):q.1=[]∧nest c σ=some (σ,q.2):=by
 cases c with
 |sh f p=>simp only[nest]at h ⊢;injection h with h;subst h;exact⟨rfl,rfl⟩
 |ow f es rows=>
  cases rows with
  |nil=>simp only[nest]at h ⊢;injection h with h;subst h;exact⟨rfl,rfl⟩
  |cons _ _=>simp[nest]at h
 |br s o q kd lo f es rows=>simp[nest,ABz,CV.isOw]at h
 |dead=>simp[nest]at h
theorem Qdz {tg tg':Tgt} {c:CV} {σ:St} {q:St×(CV→CV)×Bool×PV} (h:Cmz tg c []=some q):q.1=[]∧q.2.1=id∧Cmz tg' c σ=some (σ,q.2):=by
 cases c with
 |sh f p=>simp only[Cmz]at h ⊢;injection h with h;subst h;exact⟨rfl,rfl,rfl⟩
 |ow f es rows=>
  cases rows with
  |nil=>simp only[Cmz]at h ⊢;injection h with h;subst h;exact⟨rfl,rfl,rfl⟩
  |cons _ _=>simp[Cmz]at h
 |br s o q kd lo f es rows=>simp[Cmz,ABz,CV.isOw]at h
 |dead=>simp[Cmz]at h
theorem F7z {σ:St}:∀{l:List CV} {tg tg':Option Tgt} {m m':CV→CV} {q:St×Bool×List PV},(∀x,m x=x)→(∀x,m' x=x)→tg.isNone=tg'.isNone→Aiz tg m l []=some q→q.1=[]∧Aiz tg' m' l σ=some (σ,q.2)
 |[],tg,tg',m,m',q,hm,hm',ht,h=>by simp only[Aiz]at h ⊢;injection h with h;subst h;exact⟨rfl,rfl⟩
 |c::l,none,none,m,m',q,hm,hm',ht,h=>by
  simp only[Aiz,hm,hm']at h ⊢
  obtain⟨r,h1,h2⟩:=Option.bind_eq_some_iff.1 h
  obtain⟨e1,e2⟩:=R6z (σ:=σ) h1
  obtain⟨p,h3,h4⟩:=Option.map_eq_some_iff.1 h2
  rw[e1]at h3
  obtain⟨e3,e4⟩:=F7z (σ:=σ) hm hm' rfl h3
  subst h4
  refine⟨e3,?_⟩
  rw[e2,Option.bind_some]
  simp only[e4,Option.map_some]
 |c::l,some g,some g',m,m',q,hm,hm',ht,h=>by
  simp only[Aiz,hm,hm']at h ⊢
  obtain⟨r,h1,h2⟩:=Option.bind_eq_some_iff.1 h
  obtain⟨e1,e5,e2⟩:=Qdz (tg':=g') (σ:=σ) h1
  obtain⟨p,h3,h4⟩:=Option.map_eq_some_iff.1 h2
  rw[e1]at h3
  obtain⟨e3,e4⟩:=F7z (σ:=σ) (tg:=some g.next) (tg':=some g'.next) (m:=fun x=>r.2.1 x) (m':=fun x=>r.2.1 x) (fun x=>by rw[e5];rfl) (fun x=>by rw[e5];rfl) rfl h3
  subst h4
  refine⟨e3,?_⟩
  rw[e2,Option.bind_some]
  simp only[e4,Option.map_some]
 |c::l,none,some _,m,m',q,hm,hm',ht,h=>by simp at ht
 |c::l,some _,none,m,m',q,hm,hm',ht,h=>by simp at ht
theorem Hxz {σ:St} {es:Nat}:∀{l:List (Nat×SV)} {tg tg':Option Nat} {f:Bool} {rows:List (List PV)} {q:St×Bool×List (List PV)},tg.isNone=tg'.isNone→Aqz tg es l f rows []=some q→q.1=[]∧Aqz tg' es l f rows σ=some (σ,q.2)
 |[],tg,tg',f,rows,q,ht,h=>by simp only[Aqz]at h ⊢;injection h with h;subst h;exact⟨rfl,rfl⟩
 |(i,x)::l,tg,tg',f,rows,q,ht,h=>by
  simp only[Aqz]at h ⊢
  obtain⟨cs,h1,h⟩:=Option.bind_eq_some_iff.1 h
  obtain⟨r,h2,h⟩:=Option.bind_eq_some_iff.1 h
  obtain⟨e1,e2⟩:=F7z (σ:=σ) (tg':=tg'.map fun d=>⟨d,0,[],i,0⟩) (m':=id) (fun x=>rfl) (fun x=>rfl) (by simpa using ht) h2
  split at h
  ·rename_i hc
   rw[e1]at h
   obtain⟨e3,e4⟩:=Hxz (σ:=σ) ht h
   refine⟨e3,?_⟩
   rw[h1,Option.bind_some,e2,Option.bind_some,if_pos (by rw[←ht];exact hc)]
   exact e4
  ·simp at h
section
variable {E:Env} {call:CallF} {N:Nat} {σ:St} {L:Kont St} {d:Tmp} {ty:TypeId} {ps:String} {af:Array Edge} {gd:Option (Nat×Bool)}
def Gcz (T:Tys) (d:Nat) (t:TypeId) (n:Nat) (l:List (Nat×SV)) (σ:St):Option (St×SV):=(T.sl t).bind fun e=>(T.sz e).bind fun es=>(T.zr e).bind fun z=>
   if n*es≤16777216∧z.length=es then(Aqz (if T.mo then some d else none) es l false (List.replicate n (if T.mo then z.map PV.zo else z)) σ).map fun r=>(r.1,.c .one [.ow r.2.1 es r.2.2])else none
@[go_sem ↓] theorem WJz {t n ps'}: @Wq _ (AJz E call N ⟨some d,.buildSlice t n ps',ty,ps,af,gd⟩ σ) L= @Bq (d<N) ⟨@Wq _ (some (clear d σ)) ⟨fun σ=> @Wq _ (Gcz E.T d t n (ps'.toList.map fun p=>(p.1,opd E.T N ty σ p.2)) σ) ⟨fun r=> @Wq _ (some (r.1.set d r.2)) L⟩⟩⟩ ⟨False⟩:=by
 show Wp _ L.run=Br (d<N) (Wp (some (clear d σ)) fun σ=>Wp (Gcz E.T d t n (ps'.toList.map fun p=>(p.1,opd E.T N ty σ p.2)) σ) fun r=>Wp (some (r.1.set d r.2)) L.run) False
 by_cases hd:d<N
 ·simp only[AJz,hd,if_true,Chz,Agz,BLz]
  generalize clear d σ=τ
  have he:Cyz E call N ⟨some d,.buildSlice t n ps',ty,ps,af,gd⟩ d τ=Gcz E.T d t n (ps'.toList.map fun p=>(p.1,opd E.T N ty τ p.2)) τ:=rfl
  have hp:∀v,ALz E call N ⟨some d,.buildSlice t n ps',ty,ps,af,gd⟩ τ=some v→Gcz E.T d t n (ps'.toList.map fun p=>(p.1,opd E.T N ty τ p.2)) τ=some (τ,v):=fun v h=>by
   simp only[ALz]at h
   unfold Gcz
   obtain⟨e,h1,h⟩:=Option.bind_eq_some_iff.1 h
   obtain⟨es,h2,h⟩:=Option.bind_eq_some_iff.1 h
   obtain⟨z,h3,h⟩:=Option.bind_eq_some_iff.1 h
   rw[h1,Option.bind_some,h2,Option.bind_some,h3,Option.bind_some]
   split at h
   ·rename_i hc
    obtain⟨q,h4,h5⟩:=Option.map_eq_some_iff.1 h
    obtain⟨_,e2⟩:=Hxz (σ:=τ) (tg':=if E.T.mo=true then some d else none) (by split<;>rfl) h4
    rw[if_pos hc,e2,Option.map_some,h5]
   ·simp at h
  cases hv:ALz E call N ⟨some d,.buildSlice t n ps',ty,ps,af,gd⟩ τ with
  |some v=>simp only[Agz,hp v hv]
  |none=>simp only[he,B3z]
 ·simp[AJz,hd,Br]
@[go_sem ↓] theorem WKz {t n ps'}:ALz E call N ⟨some d,.buildSlice t n ps',ty,ps,af,gd⟩ σ=(Gcz E.T 0 t n (ps'.toList.map fun p=>(p.1,opd E.T N ty σ p.2)) []).map (·.2):=by
 show((E.T.sl t).bind fun e=>(E.T.sz e).bind fun es=>(E.T.zr e).bind fun z=>
   if n*es≤16777216∧z.length=es then(Aqz (if E.T.mo then some 0 else none) es (ps'.toList.map fun p=>(p.1,opd E.T N ty σ p.2)) false (List.replicate n (if E.T.mo then z.map PV.zo else z)) []).map fun r=>SV.c .one [.ow r.2.1 es r.2.2]else none)=_
 unfold Gcz
 cases E.T.sl t with
 |none=>rfl
 |some e=>
  simp only[Option.bind_some]
  cases E.T.sz e with
  |none=>rfl
  |some es=>
   simp only[Option.bind_some]
   cases E.T.zr e with
   |none=>rfl
   |some z=>
    simp only[Option.bind_some]
    split
    ·simp[Option.map_map,Function.comp_def]
    ·rfl
@[go_sem] theorem ADSz {f p}:isSh (.sh f p)=true:=rfl
@[go_sem] theorem ADTz {f es rows}:isSh (.ow f es rows)=false:=rfl
@[go_sem] theorem ADUz {s o q kd lo f es rows}:isSh (.br s o q kd lo f es rows)=false:=rfl
@[go_sem] theorem Z4z:isSh .dead=false:=rfl
attribute [go_sem] Fwz Option.isNone_some Option.isNone_none
attribute [go_sem] Gcz bytes? Nat.one_mul Nat.mul_one
end
def K4z (E:Env) (call:CallF) (N:Nat) (ty:TypeId) (d:Nat) (σ:St) (g:FuncId) (f:Operand) (xs:List Operand):Option (St×SV):=
  if ((xs.map (opd E.T N ty σ)).flatMap Ajz).isEmpty then (Aaz 0 (xs.map (opd E.T N ty σ))).bind fun q => (call g q.1 []).bind fun r => Dsz σ q r
      else Bsz E call N ty d σ f xs
def RDz (E:Env) (call:CallF) (N:Nat) (ty:TypeId) (d:Nat) (σ:St) (v:SV) (f:Operand) (xs:List Operand):Option (St×SV):=
 match v with
 | .fn g []=>Fdz (E.T.so g) (fun h=>h d σ (xs.map (opd E.T N ty σ))) (K4z E call N ty d σ g f xs)
 |_=>Bsz E call N ty d σ f xs
@[go_sem ↓] theorem YWz {E:Env} {call:CallF} {N:Nat} {ty:TypeId} {d:Nat} {σ:St} {t:Nat} {xs:List Operand} {K:Kont (St×SV)}: @Wq _ (HBz E call N ty d σ (.tmp t) xs) K= @Wq _ (some (opd E.T N ty σ (.tmp t))) ⟨fun v=> @Wq _ (RDz E call N ty d σ v (.tmp t) xs) K⟩:=by
 rw[Evz];rfl
@[go_sem ↓] theorem ACRz {E:Env} {call:CallF} {N:Nat} {ty:TypeId} {d:Nat} {σ:St} {g:FuncId} {f:Operand} {xs:List Operand}:RDz E call N ty d σ (.fn g []) f xs=Fdz (E.T.so g) (fun h=>h d σ (xs.map (opd E.T N ty σ))) (K4z E call N ty d σ g f xs):=rfl
@[go_sem ↓] theorem AEWz {E:Env} {call:CallF} {N:Nat} {ty:TypeId} {d:Nat} {σ:St} {g:FuncId} {f:Operand} {xs:List Operand} {K:Kont (St×SV)}: @Wq _ (K4z E call N ty d σ g f xs) K= @Wq _ (some (xs.map (opd E.T N ty σ))) ⟨fun vs=> @Bq ((vs.flatMap Ajz).isEmpty=true)
  ⟨@Wq _ (Aaz 0 vs) ⟨fun q=> @Wq _ (call g q.1 []) ⟨fun r=> @Wq _ (Dsz σ q r) K⟩⟩⟩ ⟨@Wq _ (Bsz E call N ty d σ f xs) K⟩⟩:=by
 show Wp (K4z E call N ty d σ g f xs) K.run=Wp (some (xs.map (opd E.T N ty σ))) fun vs=>Br ((vs.flatMap Ajz).isEmpty=true) (Wp (Aaz 0 vs) fun q=>Wp (call g q.1 []) fun r=>Wp (Dsz σ q r) K.run) (Wp (Bsz E call N ty d σ f xs) K.run)
 rw[Agz]
 simp only[K4z,DNz,CJz]
theorem K3z {a b:Nat} (h:a+b≤9223372036854775807):(((a+b:Nat):Int)>IntKind.i64.max)=False:=by
 have:IntKind.i64.max=9223372036854775807:=rfl
 simp only[eq_iff_iff,iff_false]
 omega
theorem Nrz:IntKind.i64.max=9223372036854775807:=rfl
theorem Csz {l:List UInt8}:ByteArray.size ⟨⟨l⟩⟩=l.length:=rfl
theorem Riz {l:List UInt8}:ByteArray.toList ⟨⟨l⟩⟩=l:=by rw[ByteArray.toList_eq]
theorem PCz {l:List UInt8} {a b:Nat}:ByteArray.extract ⟨⟨l⟩⟩ a b=⟨⟨(l.take b).drop a⟩⟩:=by
 apply ByteArray.ext
 apply Array.ext'
 simp only[ByteArray.data_extract,List.extract_toArray,List.extract_eq_take_drop]
 show(l.drop a).take (b - a)=(l.take b).drop a
 rw[List.drop_take]
theorem I5z {a b:List UInt8}:(⟨⟨a⟩⟩:ByteArray)++⟨⟨b⟩⟩=⟨⟨a++b⟩⟩:=by
 apply ByteArray.ext
 apply Array.ext'
 simp
@[go_sem] theorem AIXz:((0:Nat):Int)=0:=rfl
@[go_sem] theorem AIWz:((1:Nat):Int)=1:=rfl
@[go_sem] theorem AIVz:((2:Nat):Int)=2:=rfl
@[go_sem] theorem AIUz:((3:Nat):Int)=3:=rfl
@[go_sem] theorem AITz:((4:Nat):Int)=4:=rfl
@[go_sem] theorem AISz:((5:Nat):Int)=5:=rfl
@[go_sem] theorem AIRz:((6:Nat):Int)=6:=rfl
@[go_sem] theorem AIQz:((7:Nat):Int)=7:=rfl
@[go_sem] theorem AIPz:((8:Nat):Int)=8:=rfl
@[go_sem] theorem AEVz:((47:Nat):Int)=47:=rfl
@[go_sem] theorem AJGz:((-1:Int)<0)=True:=by simp
@[go_sem] theorem z_le:((0:Int)≤0)=True:=by simp
@[go_sem] theorem AF5z:((1:Int)<2)=True:=by simp
@[go_sem] theorem AF6z:((0:Int)<0)=False:=by simp
attribute [go_sem] List.range'_zero
theorem OJz {a:UInt8} {l:List UInt8}:(a::l==[])=false:=rfl
theorem NTz {a:UInt8} {l:List UInt8}:([]==a::l)=false:=rfl
theorem Oyz:(([]:List UInt8)==[])=true:=rfl
attribute [go_sem] OJz NTz Oyz Csz Riz PCz decide_true decide_false Int.toNat_zero
def dec (n:Nat):ByteArray:=if n<10 then⟨#[UInt8.ofNat (48+n)]⟩else dec (n/10)++⟨#[UInt8.ofNat (48+n % 10)]⟩
theorem OFz {n:Nat} (h:n<10):dec n=⟨#[UInt8.ofNat (48+n)]⟩:=by rw[dec,if_pos h]
theorem Swz {n:Nat} (h:¬n<10):dec n=dec (n/10)++⟨#[UInt8.ofNat (48+n % 10)]⟩:=by rw[dec,if_neg h]
theorem Ubz (n:Nat):(dec n).size≤n+1:=by
 induction n using Nat.strongRecOn with
 |ind n ih=>
  by_cases h:n<10
  ·rw[OFz h];show 1≤n+1;omega
  ·rw[Swz h,ByteArray.size_append]
   have:=ih (n/10) (by omega)
   show(dec (n/10)).size+1≤n+1
   omega
end Go.Proofs.YtblelojdboefjaaGreatDoor.R
namespace Go.Proofs.YtblelojdboefjaaGreatDoor.R
open Go
section
variable {N:Nat} {σ:St}
@[go_sem] theorem AIDz {f p}:(CV.sh f p).up N= .sh f p:=rfl
@[go_sem] theorem AIEz {f es rows}:(CV.ow f es rows).up N= .ow f es rows:=rfl
@[go_sem] theorem ACMz:CV.dead.up N= .dead:=rfl
@[go_sem] theorem AIFz {s o q kd lo f es rows}:(CV.br s o q kd lo f es rows).up N= .br (s+N) o q kd lo f es rows:=by
 rw[Nat.add_comm];rfl
@[go_sem] theorem ZVz:SV.undef.up N= .undef:=rfl
@[go_sem] theorem AAfz:skipSV.up N=skipSV:=rfl
@[go_sem] theorem AJBz {sh l}:(SV.c sh l).up N= .c sh (l.map (CV.up N)):=rfl
@[go_sem] theorem AFpz {s o}:(SV.bp s o).up N= .bp (s+N) o:=by rw[Nat.add_comm];rfl
@[go_sem] theorem AFoz {s o q kd fl es i f row}:(SV.ep s o q kd fl es i f row).up N= .ep (s+N) o q kd fl es i f row:=by rw[Nat.add_comm];rfl
@[go_sem] theorem AFmz {fl row f}:(SV.sp fl row f).up N= .sp fl row f:=rfl
@[go_sem] theorem AFnz {g}:(SV.fn g []).up N= .fn g []:=rfl
theorem Msz {s:Nat}:(upSt N σ).getD s .undef=(σ.getD s .undef).up N:=by
 unfold upSt
 rw[List.getD_eq_getElem?_getD,List.getElem?_map,List.getD_eq_getElem?_getD]
 cases σ[s]? <;>rfl
attribute [go_sem] Msz IBz
@[go_sem] theorem ADVz {c:CV}:(c.up N).isOw=c.isOw:=by cases c<;>rfl
@[go_sem] theorem AIaz {c:CV} {q:Path}:(c.up N).atQ q=c.atQ q:=by cases c<;>rfl
@[go_sem] theorem TSz {s o:Nat}:ABz (upSt N σ) s o=(ABz σ s o).up N:=by
 unfold ABz
 rw[Msz]
 cases σ.getD s .undef with
 |c sh l=>
  simp only[SV.up]
  rw[List.getD_eq_getElem?_getD,List.getElem?_map,List.getD_eq_getElem?_getD]
  cases l[o]? <;>rfl
 |_=>rfl
@[go_sem] theorem Twz {x:SV}:plain (x.up N)=plain x:=by
 have h:∀l:List CV,((l.map (CV.up N)).all fun c=> !c.isOw)=l.all fun c=> !c.isOw:=fun l=>by
  rw[List.all_map];congr 1;funext c;cases c<;>rfl
 cases x with
 |c sh l=>cases sh<;>first|rfl|exact h l
 |_=>rfl
theorem KXz {g g':Nat→CV→CV} {u:CV→CV} (h:∀j c,g j (u c)=u (g' j c)):∀(j:Nat) (l:List CV),Acz g j (l.map u)=(Acz g' j l).map u
 |_,[]=>rfl
 |j,c::l=>by simp only[List.map_cons,Acz,h,KXz h]
theorem NXz {g g':Nat→Nat→CV→CV} {e e':EpMap} (hg:∀k j c,g (k+N) j (c.up N)=(g' k j c).up N) (he:∀a b q,e (N+a) b q=(e' a b q).map fun r=>(N+r.1,r.2.1,r.2.2)):∀(k:Nat) (σ:St),Afz g e (k+N) (upSt N σ)=upSt N (Afz g' e' k σ)
 |_,[]=>rfl
 |k,x::l=>by
  have ih:=NXz hg he (k+1) l
  rw[Nat.add_right_comm]at ih
  simp only[upSt,List.map_cons,Afz]at ih ⊢
  rw[ih]
  congr 1
  cases x with
  |c sh l=>simp only[SV.up,SV.mapC,KXz (hg k)]
  |ep s o q kd fl es i f row=>
   simp only[SV.up,SV.mapC,he]
   cases e' s o q with
   |none=>rfl
   |some r=>obtain⟨a,b,c⟩:=r;rfl
  |_=>rfl
theorem Gbz {g g':Nat→Nat→CV→CV} {e e':EpMap} (hg:∀k j c,g (k+N) j (c.up N)=(g' k j c).up N) (he:∀a b q,e (N+a) b q=(e' a b q).map fun r=>(N+r.1,r.2.1,r.2.2)):Afz g e N (upSt N σ)=upSt N (Afz g' e' 0 σ):=by
 have:=NXz hg he 0 σ
 rwa[Nat.zero_add]at this
theorem Emz {g:Nat→Nat→CV→CV} {e:EpMap} (hg:∀k j (c:CV),g (k+N) j (c.up N)=c.up N) (he:∀a b q,e (N+a) b q=some (N+a,b,q)):Afz g e N (upSt N σ)=upSt N σ:=by
 rw[Gbz (g':=fun _ _ c=>c) (e':=fun a b q=>some (a,b,q)) hg (fun a b q=>he a b q)]
 rw[HWz (fun _ _ _=>rfl) (fun _ _ _=>rfl)]
theorem Jtz {s o:Nat}:∀a b q,Ayz (s+N) o (N+a) b q=(Ayz s o a b q).map fun r=>(N+r.1,r.2.1,r.2.2):=fun a b q=>by
 unfold Ayz
 by_cases h:a=s∧b=o
 ·rw[if_pos h,if_pos ⟨by omega,h.2⟩];rfl
 ·rw[if_neg h,if_neg (fun h'=>h ⟨by omega,h'.2⟩)];rfl
theorem Hmz {s o:Nat} (h:s<N):∀a b q,Ayz s o (N+a) b q=some (N+a,b,q):=fun a b q=>by
 unfold Ayz;rw[if_neg (by omega)]
@[go_sem] theorem Wpz {s o:Nat} (h:s<N):Afz (demC s o) (Ayz s o) N (upSt N σ)=upSt N σ:=
 Emz (fun k j c=>by cases c<;>simp[CV.up,demC]<;>omega) (Hmz h)
@[go_sem] theorem Woz {s o:Nat} (h:s<N):Afz (offC s o) (Ayz s o) N (upSt N σ)=upSt N σ:=
 Emz (fun k j c=>by cases c<;>simp[CV.up,offC]<;>omega) (Hmz h)
@[go_sem] theorem AIdz {s o s' o':Nat} {m:Option Nat} (h:s<N):Afz (mvC s o s' o' m) (epTo s o s' o' m) N (upSt N σ)=upSt N σ:=
 Emz (fun k j c=>by
  cases c with
  |br a b q kd lo f es rows=>simp only[CV.up,mvC];rw[if_neg (by omega)]
  |ow f es rows=>simp only[CV.up,mvC];rw[if_neg (by omega)]
  |_=>rfl) (fun a b q=>by unfold epTo;rw[if_neg (by omega)])
@[go_sem] theorem AEuz {s o:Nat} {q:Path} {g:PV→PV} {f':Bool} (h:s<N):Afz (modC s o q g f') (Ayz s o) N (upSt N σ)=upSt N σ:=
 Emz (fun k j c=>by
  cases c with
  |br a b q kd lo f es rows=>simp only[CV.up,modC,modL];rw[if_neg (by omega)]
  |ow f es rows=>simp only[CV.up,modC];rw[if_neg (by omega)]
  |_=>rfl) (Hmz h)
@[go_sem] theorem AEtz {s o s' o':Nat} {q q':Path} (h:s<N):Afz (mvpC s o q s' o' q') (Ayz s o) N (upSt N σ)=upSt N σ:=
 Emz (fun k j c=>by
  cases c with
  |br a b q kd lo f es rows=>simp only[CV.up,mvpC,mvpL];rw[if_neg (by omega)]
  |ow f es rows=>simp only[CV.up,mvpC];rw[if_neg (by omega)]
  |_=>rfl) (Hmz h)
@[go_sem] theorem ACjz {s o:Nat}:Afz (demC (s+N) o) (Ayz (s+N) o) N (upSt N σ)=upSt N (demote s o σ):=
 Gbz (fun k j c=>by
  cases c with
  |br a b q kd lo f es rows=>
   simp only[CV.up,demC]
   by_cases h:a=s∧b=o
   ·rw[if_pos h,if_pos ⟨by omega,h.2⟩];try rfl
   ·rw[if_neg h,if_neg fun h'=>h ⟨by omega,h'.2⟩];try rfl
  |ow f es rows=>
   simp only[CV.up,demC]
   by_cases h:k=s∧j=o
   ·rw[if_pos h,if_pos ⟨by omega,h.2⟩];try rfl
   ·rw[if_neg h,if_neg fun h'=>h ⟨by omega,h'.2⟩];try rfl
  |_=>rfl) Jtz
@[go_sem] theorem AChz {s o:Nat}:Afz (offC (s+N) o) (Ayz (s+N) o) N (upSt N σ)=upSt N (off s o σ):=
 Gbz (fun k j c=>by
  cases c with
  |br a b q kd lo f es rows=>
   simp only[CV.up,offC]
   by_cases h:a=s∧b=o
   ·rw[if_pos h,if_pos ⟨by omega,h.2⟩];try rfl
   ·rw[if_neg h,if_neg fun h'=>h ⟨by omega,h'.2⟩];try rfl
  |ow f es rows=>
   simp only[CV.up,offC]
   by_cases h:k=s∧j=o
   ·rw[if_pos h,if_pos ⟨by omega,h.2⟩];try rfl
   ·rw[if_neg h,if_neg fun h'=>h ⟨by omega,h'.2⟩];try rfl
  |_=>rfl) Jtz
@[go_sem] theorem ACiz {s o:Nat} {q:Path} {g:PV→PV} {f':Bool}:Afz (modC (s+N) o q g f') (Ayz (s+N) o) N (upSt N σ)=upSt N (modS s o q g f' σ):=
 Gbz (fun k j c=>by
  cases c with
  |br a b q' kd lo f es rows=>
   simp only[CV.up,modC,modL]
   by_cases h:a=s∧b=o
   ·rw[if_pos h,if_pos ⟨by omega,h.2⟩]
    by_cases hk:kd=0
    ·rw[if_pos hk,if_pos hk]
     cases strip q' q with
     |none=>rfl
     |some r=>
      simp only
      cases modP g r (.o es rows)<;>rfl
    ·rw[if_neg hk,if_neg hk];try rfl
   ·rw[if_neg h,if_neg fun h'=>h ⟨by omega,h'.2⟩];try rfl
  |ow f es rows=>
   simp only[CV.up,modC]
   by_cases h:k=s∧j=o
   ·rw[if_pos h,if_pos ⟨by omega,h.2⟩]
    cases modP g q (.o es rows)<;>rfl
   ·rw[if_neg h,if_neg fun h'=>h ⟨by omega,h'.2⟩];try rfl
  |_=>rfl) Jtz
theorem HXz {g:Nat→Nat→CV→CV} {e:EpMap}:∀(n k:Nat) (ρ:St),(Afz g e k ρ).drop n=Afz g e (k+n) (ρ.drop n)
 |0,k,ρ=>rfl
 |n+1,k,[]=>rfl
 |n+1,k,x::ρ=>by
  simp only[Afz,List.drop_succ_cons,HXz n (k+1) ρ]
  congr 1;omega
def Tail (N:Nat) (ρ σ:St):Prop:=N≤ρ.length∧ρ.drop N=upSt N σ
theorem Tail.dem {ρ:St} {d j:Nat} (h:Tail N ρ σ) (hd:d<N):Tail N (demote d j ρ) σ:=by
 refine⟨by unfold demote;rw[Arz];exact h.1,?_⟩
 unfold demote
 rw[HXz,h.2,Nat.zero_add,Wpz hd]
theorem Tail.demAll {d:Nat} (hd:d<N):∀{n j:Nat} {ρ:St},Tail N ρ σ→Tail N (Abz d j n ρ) σ
 |0,j,ρ,h=>h
 |n+1,j,ρ,h=>by
  unfold Abz
  refine Tail.demAll hd ?_
  split
  ·exact h.dem hd
  ·exact h
theorem Tail.set {ρ:St} {d:Nat} {v:SV} (h:Tail N ρ σ) (hd:d<N):Tail N (ρ.set d v) σ:=by
 refine⟨by rw[List.length_set];exact h.1,?_⟩
 rw[List.drop_set,if_pos hd]
 exact h.2
theorem Tail.cut {ρ:St} {d:Nat} (h:Tail N ρ σ) (hd:d<N):Tail N (ρ.map (SV.cut d)) σ:=by
 refine⟨by rw[List.length_map];exact h.1,?_⟩
 rw[←List.map_drop,h.2]
 unfold upSt
 rw[List.map_map]
 congr 1
 funext x
 cases x with
 |bp s o=>simp only[Function.comp,SV.up,SV.cut];rw[if_neg (by omega)]
 |fn g caps=>
  simp only[Function.comp,SV.up,SV.cut]
  rw[if_neg]
  simp
  intro x _;omega
 |_=>rfl
theorem Tail.clear {ρ:St} {d:Nat} (h:Tail N ρ σ) (hd:d<N):Tail N (clear d ρ) σ:=by
 unfold R.clear
 split
 ·exact((h.demAll hd).cut hd).set hd
 ·exact h.demAll hd
 ·exact h
theorem Tail.tidy:∀{ds:List Nat} {ρ:St},Tail N ρ σ→Tail N (tidy N ds ρ) σ
 |[],ρ,h=>h
 |d::ds,ρ,h=>by
  unfold R.tidy
  refine Tail.tidy ?_
  split
  ·rename_i hd
   exact(h.clear hd).set hd
  ·exact h
theorem ZNz {x:SV}:(x.up N).dn N=x:=by
 have hc:∀c:CV,(c.up N).dn N=c:=fun c=>by
  cases c with
  |br s o q kd lo f es rows=>simp[CV.up,CV.dn]
  |_=>rfl
 cases x with
 |c sh l=>
  have:(CV.dn N∘CV.up N)=id:=by funext c;exact hc c
  simp[SV.up,SV.dn,this]
 |bp s o=>simp[SV.up,SV.dn]
 |ep s o q kd fl es i f row=>simp[SV.up,SV.dn]
 |fn g caps=>
  have:((fun x=>x - N)∘fun x=>N+x)=id:=by funext x;simp
  simp[SV.up,SV.dn,this]
 |_=>rfl
theorem Tail.dn {ρ:St} (h:Tail N ρ σ):dnSt N ρ=σ:=by
 unfold dnSt
 rw[h.2]
 unfold upSt
 rw[List.map_map]
 have:(SV.dn N∘SV.up N)=id:=by funext x;exact ZNz
 rw[this,List.map_id]
theorem Tail.put {ρ:St} {d:Nat} {v:SV} (h:Tail N ρ σ):Tail N (ρ.set (N+d) (v.up N)) (σ.set d v):=by
 refine⟨by rw[List.length_set];exact h.1,?_⟩
 rw[List.drop_set,if_neg (by omega),h.2,show N+d - N=d by omega]
 unfold upSt
 rw[List.map_set]
theorem Tail.get {ρ:St} {d:Nat} (h:Tail N ρ σ):ρ.getD (N+d) .undef=(σ.getD d .undef).up N:=by
 rw[←Msz,←h.2,List.getD_eq_getElem?_getD,List.getD_eq_getElem?_getD,List.getElem?_drop]
theorem PJz {ρ:St} {d:Nat} (h:plain (ρ.getD d .undef)=true):clear d ρ=ρ:=by
 rw[K2z]
 have hd:∀(l:List CV) (j:Nat),(l.all fun c=> !c.isOw)=true→demL d j l ρ=ρ:=by
  intro l
  induction l with
  |nil=>intro j _;rfl
  |cons c l ih=>
   intro j h
   simp only[List.all_cons,Bool.and_eq_true,Bool.not_eq_true']at h
   simp only[demL,h.1,Bool.false_eq_true,if_false]
   exact ih _ h.2
 unfold Bbz
 split
 ·rename_i l e;rw[e]at h;simp[plain]at h
 ·rename_i sh l hs e
  rw[e]at h
  cases sh with
  |box=>exact absurd rfl hs
  |_=>exact hd l 0 h
 ·rfl
theorem Koz {T:Tys} {d:Nat} {rs:List ResultVar} {τ τ2:St} {sh:List (Bool×Nat)} {cs cs0:List CV} (hτ:Tail N τ σ) (hd:d<σ.length) (hp:plain (σ.getD d .undef)=true)
  (hr:BGz T true N (N+d) 0 rs (τ.set (N+d) .undef)=some (τ2,sh,cs)) (h2:Tail N τ2 (σ.set d .undef)) (hc:cs=cs0.map (CV.up N)):
  E4z T N d rs τ=some (σ.set d (.c (BCz sh) cs0),.c (BCz sh) cs0):=by
 have hw:wipe (N+d) τ=τ.set (N+d) .undef:=by
  unfold wipe
  rw[PJz]
  rw[hτ.get,Twz];exact hp
 unfold E4z
 rw[hw,hr]
 simp only[Option.map_some]
 have hV:SV.c (BCz sh) cs=(SV.c (BCz sh) cs0).up N:=by rw[hc];rfl
 have h3:Tail N (tidy N (List.range N) (τ2.set (N+d) (SV.c (BCz sh) cs))) (σ.set d (.c (BCz sh) cs0)):=by
  rw[hV]
  have:=(h2.put (d:=d) (v:=SV.c (BCz sh) cs0)).tidy (ds:=List.range N)
  rwa[List.set_set]at this
 rw[h3.dn]
 rw[List.getD_eq_getElem?_getD,List.getElem?_set_self hd]
 rfl
theorem JQz {g1 g2 g:Nat→CV→CV} (h:∀j c,g2 j (g1 j c)=g j c):∀(j:Nat) (l:List CV),Acz g2 j (Acz g1 j l)=Acz g j l
 |_,[]=>rfl
 |j,c::l=>by simp only[Acz,h,JQz h]
theorem Fiz {g1 g2 g:Nat→Nat→CV→CV} {e1 e2 e:EpMap} (h:∀k j c,g2 k j (g1 k j c)=g k j c) (he:∀a b q,(e1 a b q).bind (fun r=>e2 r.1 r.2.1 r.2.2)=e a b q):∀(k:Nat) (σ:St),Afz g2 e2 k (Afz g1 e1 k σ)=Afz g e k σ
 |_,[]=>rfl
 |k,x::l=>by
  simp only[Afz,Fiz h he]
  congr 1
  cases x with
  |c sh l=>simp only[SV.mapC,JQz (h k)]
  |ep s o q kd fl es i f row=>
   have:=he s o q
   simp only[SV.mapC]
   cases h1:e1 s o q with
   |none=>rw[h1]at this;simp only[Option.bind_none]at this;rw[←this]
   |some r=>obtain⟨a,b,c⟩:=r;rw[h1]at this;simp only[Option.bind_some]at this;rw[←this]
  |_=>rfl
@[go_sem] theorem APz {s o a b:Nat} {q:Path} {g:PV→PV} {f':Bool}:ABz (modS s o q g f' σ) a b=modC s o q g f' a b (ABz σ a b):=by
 unfold modS
 rcases Hnz (modC s o q g f') (Ayz s o) σ a b (IWz s o q g f' a b)with h|⟨h1,h2⟩
 ·exact h
 ·rw[h2]
  have:ABz (Afz (modC s o q g f') (Ayz s o) 0 σ) a b= .dead:=by
   unfold ABz
   rw[List.getD_eq_getElem?_getD,BQz]
   cases hx:σ[a]? with
   |none=>rfl
   |some x=>
    cases x with
    |c sh l=>exact absurd hx (h1 sh l)
    |ep s1 o1 q1 kd fl es i f row=>
     simp only[Option.map_some,Option.getD_some,SV.mapC]
     cases Ayz s o s1 o1 q1<;>rfl
    |_=>rfl
  rw[this];rfl
@[go_sem] theorem E1z {s o:Nat} {q:Path} {g:PV→PV} {f':Bool}:(modS s o q g f' σ).length=σ.length:=by unfold modS;exact Arz _ _ _ _
@[go_sem] theorem Xez {s o a b:Nat} {q:Path} {g:PV→PV} {f':Bool}:ABz (Afz (modC s o q g f') (Ayz s o) 0 σ) a b=modC s o q g f' a b (ABz σ a b):=APz
@[go_sem] theorem Zvz {s o:Nat} {q:Path} {g:PV→PV} {f':Bool}:(Afz (modC s o q g f') (Ayz s o) 0 σ).length=σ.length:=E1z
theorem Ekz {s o d:Nat} {q:Path} {g:PV→PV} {f':Bool} (h:plain (σ.getD d .undef)=true):plain ((modS s o q g f' σ).getD d .undef)=true:=by
 unfold modS
 rw[List.getD_eq_getElem?_getD,BQz]
 rw[List.getD_eq_getElem?_getD]at h
 cases hx:σ[d]? with
 |none=>rfl
 |some x=>
  rw[hx]at h
  have hm:∀(l:List CV) (j:Nat),(l.all fun c=> !c.isOw)=true→((Acz (modC s o q g f' (0+d)) j l).all fun c=> !c.isOw)=true:=by
   intro l
   induction l with
   |nil=>intro j _;rfl
   |cons c l ih=>
    intro j h
    simp only[List.all_cons,Bool.and_eq_true,Bool.not_eq_true']at h
    simp only[Acz,List.all_cons,Bool.and_eq_true,Bool.not_eq_true']
    exact⟨Vcz s o q g f' _ _ c h.1,by simpa using ih (j+1) (by simpa using h.2)⟩
  simp only[Option.map_some,Option.getD_some]at h ⊢
  cases x with
  |c sh l=>
   cases sh with
   |box=>simp[plain]at h
   |one=>first|exact hm l 0 h|(have:=hm l 0 h;simpa using this)
   |agg=>first|exact hm l 0 h|(have:=hm l 0 h;simpa using this)
   |tup _=>first|exact hm l 0 h|(have:=hm l 0 h;simpa using this)
  |ep s1 o1 q1 kd fl es i f row=>
   simp only[SV.mapC]
   cases Ayz s o s1 o1 q1<;>rfl
  |_=>rfl
theorem SCz {s o es:Nat} {f1 f2:Bool} {r1 r2:List (List PV)} (h:r1.length=r2.length):modS s o [] (AKz es r2) f2 (modS s o [] (AKz es r1) f1 σ)=modS s o [] (AKz es r2) (f1||f2) σ:=by
 unfold modS
 refine Fiz (fun k j c=> ?_) (fun a b q=> ?_) 0 σ
 ·cases c with
  |ow f es1 rows=>
   simp only[modC]
   by_cases hk:k=s∧j=o
   ·simp only[if_pos hk,Bgz,AKz]
    by_cases hc:es1=es∧rows.length=r1.length
    ·rw[if_pos hc,if_pos ⟨hc.1,hc.2.trans h⟩]
     simp only[owBy,modC,if_pos hk,Bgz,AKz]
     rw[if_pos ⟨hc.1,h⟩,Bool.or_assoc]
    ·rw[if_neg hc,if_neg fun h'=>hc ⟨h'.1,h'.2.trans h.symm⟩]
     rfl
   ·simp only[if_neg hk,modC]
  |br a b q' kd lo f es1 rows=>
   simp only[modC,modL]
   by_cases hk:a=s∧b=o
   ·simp only[if_pos hk]
    by_cases h0:kd=0
    ·simp only[if_pos h0]
     cases q' with
     |nil=>
      simp only[strip,Bgz,AKz]
      by_cases hc:es1=es∧rows.length=r1.length
      ·rw[if_pos hc,if_pos ⟨hc.1,hc.2.trans h⟩]
       simp only[brBy,modC,modL,if_pos hk,if_true,strip,Bgz,AKz]
       rw[if_pos ⟨hc.1,h⟩,Bool.or_assoc]
      ·rw[if_neg hc,if_neg fun h'=>hc ⟨h'.1,h'.2.trans h.symm⟩]
       rfl
     |cons a q=>rfl
    ·simp only[if_neg h0]
   ·simp only[if_neg hk,modC,modL]
  |_=>rfl
 ·unfold Ayz
  by_cases hk:a=s∧b=o
  ·simp[hk]
  ·simp[hk]
structure At (s o es d:Nat) (σ0 σ:St) (rows:List (List PV)):Prop where
 cell:ABz σ s o= .ow false es rows
 len:σ.length=σ0.length
 pl:plain (σ.getD d .undef)=true
 to:∀r:List (List PV),r.length=rows.length→modS s o [] (AKz es r) false σ=modS s o [] (AKz es r) false σ0
theorem At.refl {s o es d:Nat} {rows:List (List PV)} (h:ABz σ s o= .ow false es rows) (hp:plain (σ.getD d .undef)=true):At s o es d σ σ rows:=⟨h,rfl,hp,fun _ _=>rfl⟩
theorem At.step {s o es d:Nat} {σ0:St} {rows r:List (List PV)} (h:At s o es d σ0 σ rows) (hr:r.length=rows.length):At s o es d σ0 (modS s o [] (AKz es r) false σ) r where
 cell:=by
  rw[APz,h.cell,Jlz,if_pos ⟨rfl,rfl⟩,Bgz,Rpz,if_pos ⟨rfl,hr.symm⟩];rfl
 len:=by rw[E1z,h.len]
 pl:=Ekz h.pl
 to:=fun r' hr'=>by
  rw[SCz hr'.symm]
  exact h.to r' (hr'.trans hr)
theorem Tail.cell {ρ:St} {s o:Nat} (h:Tail N ρ σ):ABz ρ (s+N) o=(ABz σ s o).up N:=by
 rw[←TSz]
 unfold ABz
 rw[←h.2,List.getD_eq_getElem?_getD,List.getD_eq_getElem?_getD,List.getElem?_drop,Nat.add_comm]
theorem ONz {s o d:Nat} {v:SV} (hp:plain (σ.getD d .undef)=true) (hc:(ABz σ s o).isOw=true):ABz (σ.set d v) s o=ABz σ s o:=by
 have hne:s≠d:=fun e=>by
  subst e
  unfold ABz at hc
  generalize σ.getD s .undef=x at hp hc
  cases x with
  |c sh l=>
   have h1:∀l:List CV,(l.all fun c=> !c.isOw)=true→(l.getD o .dead).isOw=true→False:=fun l h1 h2=>by
    rw[List.getD_eq_getElem?_getD]at h2
    cases hx:l[o]? with
    |none=>rw[hx]at h2;simp[CV.isOw]at h2
    |some c=>
     rw[hx]at h2
     have:=List.all_eq_true.1 h1 c (List.mem_of_getElem? hx)
     simp at h2;simp[h2]at this
   cases sh with
   |box=>simp[plain]at hp
   |_=>exact h1 l hp hc
  |_=>simp[CV.isOw]at hc
 unfold ABz
 rw[List.getD_eq_getElem?_getD,List.getD_eq_getElem?_getD,List.getElem?_set_ne (Ne.symm hne)]
end
end Go.Proofs.YtblelojdboefjaaGreatDoor.R
