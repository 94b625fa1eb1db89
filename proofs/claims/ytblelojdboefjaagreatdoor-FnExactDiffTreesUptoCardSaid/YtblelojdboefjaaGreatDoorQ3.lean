/- Walking the evaluator: what has to hold before, so that a condition holds behind; laws for simp, one for each form of code and of operation. -/
import Derived.IntWalk
import Derived.Laws.Strings
import Derived.Test.YtblelojdboefjaaGreatDoorQ0
import Derived.Test.YtblelojdboefjaaGreatDoorQ2
set_option linter.all false
namespace Go.Proofs.YtblelojdboefjaaGreatDoor.R
open Go
def Wp {α:Type} (x:Option α) (K:α→Prop):Prop:=∃r,x=some r∧K r
def Br (c:Prop) (A B:Prop):Prop:=(c→A)∧(¬c→B)
section
variable {α β:Type}
@[congr] theorem YKz {x y:Option α} {K:α→Prop} (h:x=y):Wp x K=Wp y K:=by rw[h]
@[congr] theorem Z3z {c d:Prop} {A B:Prop} (h:c=d):Br c A B=Br d A B:=by rw[h]
@[simp] theorem CXz {A B:Prop}:Br True A B=A:=by simp[Br]
@[simp] theorem HHz {A B:Prop}:Br False A B=B:=by simp[Br]
theorem VZz {c A B:Prop} (h:c) (h1:A):Br c A B:=⟨fun _=>h1,fun h'=>(h' h).elim⟩
theorem Vaz {c A B:Prop} (h:¬c) (h1:B):Br c A B:=⟨fun h'=>(h h').elim,fun _=>h1⟩
@[simp] theorem Ahz {a:α} {K:α→Prop}:Wp (some a) K=K a:=by simp[Wp]
@[simp] theorem DDz {K:α→Prop}:Wp (none:Option α) K=False:=by simp[Wp]
@[simp↓] theorem CMz {x:Option α} {g:α→Option β} {K:β→Prop}:Wp (x.bind g) K=Wp x fun r=>Wp (g r) K:=by
 cases x<;>simp
@[simp↓] theorem Brz {x:Option α} {g:α→β} {K:β→Prop}:Wp (x.map g) K=Wp x fun r=>K (g r):=by
 cases x<;>simp
@[simp↓] theorem DAz {c:Prop} [Decidable c] {x y:Option α} {K:α→Prop}:Wp (if c then x else y) K=Br c (Wp x K) (Wp y K):=by
 unfold Br;by_cases h:c<;>simp[h]
theorem Wp.mono {x:Option α} {K L:α→Prop} (h:Wp x K) (hk:∀r,K r→L r):Wp x L:=by
 obtain⟨r,h1,h2⟩:=h;exact⟨r,h1,hk r h2⟩
theorem WQz {x:Option α} {r:α} {K:α→Prop} (h:x=some r) (hk:K r):Wp x K:=⟨r,h,hk⟩
theorem WRz {x:Option α} {r:α} (h:Wp x (· =r)):x=some r:=by
 obtain⟨_,h1,h2⟩:=h;rw[h1,h2]
end
def cont (k:St→Prop) (K:Ex×St→Prop):Ex×St→Prop
 |(.normal,σ)=>k σ
 |(.exit i,σ)=>K (.exit i,σ)
 |(.ret,σ)=>K (.ret,σ)
@[simp] theorem Nwz {k K σ}:cont k K (.normal,σ)=k σ:=rfl
@[simp] theorem RAz {k K i σ}:cont k K (.exit i,σ)=K (.exit i,σ):=rfl
@[simp] theorem Shz {k K σ}:cont k K (.ret,σ)=K (.ret,σ):=rfl
def blk (id:Nat) (K:Ex×St→Prop):Ex×St→Prop
 |(.normal,σ)=>K (.normal,σ)
 |(.exit i,σ)=>if i=id then K (.normal,σ)else K (.exit i,σ)
 |(.ret,σ)=>K (.ret,σ)
@[simp] theorem Pgz {i K σ}:blk i K (.normal,σ)=K (.normal,σ):=rfl
@[simp] theorem T4z {i K σ}:blk i K (.ret,σ)=K (.ret,σ):=rfl
section
variable {E:Env} {call:CallF} {N n:Nat} {σ:St} {K:Ex×St→Prop}
@[simp↓] theorem wp_skip:Wp (AEz E call N n .skip σ) K=Wp (some σ) fun σ=>K (.normal,σ):=by simp[AEz]
@[simp↓] theorem wp_label {l}:Wp (AEz E call N n (.label l) σ) K=Wp (some σ) fun σ=>K (.normal,σ):=by simp[AEz]
@[simp↓] theorem wp_exit {i}:Wp (AEz E call N n (.exit i) σ) K=Wp (some σ) fun σ=>K (.exit i,σ):=by simp[AEz]
@[simp↓] theorem wp_ret:Wp (AEz E call N n .ret σ) K=Wp (some σ) fun σ=>K (.ret,σ):=by simp[AEz]
@[simp↓] theorem wp_seq {a b:Code}:Wp (AEz E call N n (.seq a b) σ) K=Wp (AEz E call N n a σ) (cont (fun σ=>Wp (AEz E call N n b σ) K) K):=by
 simp only[AEz,CMz]
 congr 1;funext ⟨e,σ⟩
 cases e<;>simp[cont]
@[simp↓] theorem wp_cond {c:Operand} {t e:Code}:Wp (AEz E call N n (.cond c t e) σ) K=Wp (some σ) fun σ=>Wp (opd E.T N 0 σ c).bool? fun x=>Br (x=true) (Wp (AEz E call N n t σ) K) (Wp (AEz E call N n e σ) K):=by
 simp only[AEz,CMz,DAz,Ahz]
@[simp↓] theorem wp_block {id:Nat} {b:Code}:Wp (AEz E call N n (.block id b) σ) K=Wp (AEz E call N n b σ) (blk id K):=by
 simp only[AEz,Brz]
 congr 1;funext ⟨e,σ⟩
 cases e with
 |exit i=>simp only[blk];split<;>rfl
 |_=>simp[blk]
def runL (E:Env) (call:CallF) (N:Nat) (ops:Array Oper):List Oper→St→Option St
 |[],σ=>some σ
 |o::r,σ=>(Avz N ops o σ).bind fun w=>(if w then ALz E call N o σ else if J7z N o.dst then some (Ldz o.dst skipSV (ILz o.dst σ))else none).bind fun σ=>runL E call N ops r σ
theorem GIz {ops:Array Oper}:∀(r:List Oper) (k:Nat) (σ:St),ops.toList.drop k=r→A5z E call N ops (List.range' k r.length) σ=runL E call N ops r σ
 |[],k,σ,h=>by simp[A5z,runL]
 |o::r,k,σ,h=>by
  have hk:ops.toList[k]? =some o:=by
   have:=congrArg (fun l=>l[0]?) h
   simpa[List.getElem?_drop]using this
  have hd:ops.toList.drop (k+1)=r:=by
   have:=congrArg List.tail h
   simpa[List.tail_drop]using this
  simp only[List.length_cons,List.range'_succ,A5z,runL]
  rw[show ops[k]? =some o by simpa using hk]
  simp only
  congr 1;funext w
  congr 1;funext σ'
  exact GIz r (k+1) σ' hd
@[simp↓] theorem wp_region {id:Nat} {ops:Array Oper}:Wp (AEz E call N n (.region id ops false) σ) K=Wp (runL E call N ops ops.toList σ) fun σ=>K (.normal,σ):=by
 simp only[AEz,Bool.false_eq_true,if_false,Brz]
 rw[List.range_eq_range',←GIz ops.toList 0 σ rfl]
 simp
variable {L:St→Prop}
@[simp↓] theorem UXz {ops:Array Oper}:Wp (runL E call N ops [] σ) L=Wp (some σ) L:=rfl
@[simp↓] theorem TFz {ops:Array Oper} {d:Option Tmp} {op:Op} {ty:TypeId} {ps:String} {af:Array Edge} {r:List Oper}:
  Wp (runL E call N ops (⟨d,op,ty,ps,af,none⟩::r) σ) L=Wp (ALz E call N ⟨d,op,ty,ps,af,none⟩ σ) fun σ=>Wp (runL E call N ops r σ) L:=by
 simp[runL,Avz]
@[simp↓] theorem LUz {ops:Array Oper} {d:Tmp} {op:Op} {ty:TypeId} {ps:String} {af:Array Edge} {j:Nat} {want:Bool} {r:List Oper}:
  Wp (runL E call N ops (⟨some d,op,ty,ps,af,some (j,want)⟩::r) σ) L=Wp (some σ) fun σ=>Wp ((ops[j]?).bind (·.dst)) fun t=>Br (t<N∧d<N) (Wp (gval (σ.getD t .undef)) fun b=>
   Br (b=some want) (Wp (ALz E call N ⟨some d,op,ty,ps,af,some (j,want)⟩ σ) fun σ=>Wp (runL E call N ops r σ) L) (Wp (some ((clear d σ).set d skipSV)) fun σ=>Wp (runL E call N ops r σ) L)) False:=by
 have e:runL E call N ops (⟨some d,op,ty,ps,af,some (j,want)⟩::r) σ=(((ops[j]?).bind (·.dst)).bind fun t=>if t<N then(gval (σ.getD t .undef)).map fun b=>b==some want else none).bind fun w=>
   (if w=true then ALz E call N ⟨some d,op,ty,ps,af,some (j,want)⟩ σ else if d<N then some ((clear d σ).set d skipSV)else none).bind fun σ=>runL E call N ops r σ:=by
  simp only[runL,Avz,J7z,Ldz,ILz,decide_eq_true_eq]
 rw[e,Ahz]
 have hs:¬d<N→ALz E call N ⟨some d,op,ty,ps,af,some (j,want)⟩ σ=none:=fun h=>by simp[ALz,h]
 generalize ALz E call N ⟨some d,op,ty,ps,af,some (j,want)⟩ σ=so at hs e ⊢
 generalize(ops[j]?).bind (·.dst)=ot
 cases ot with
 |none=>simp
 |some t=>
  by_cases ht:t<N
  ·by_cases hd:d<N
   ·simp only[Option.bind_some,ht,hd,if_true,and_self,CXz,Brz,CMz,Ahz]
    congr 1;funext b
    by_cases hb:b=some want
    ·simp[hb]
    ·simp[hb]
   ·have hf:(t<N∧d<N)=False:=by simp[hd]
    simp only[hf,HHz,CMz,Ahz,ht,hd,hs hd,if_true,if_false,Brz,ite_self,DDz]
    simp[Wp]
  ·simp[ht,Br]
end
end Go.Proofs.YtblelojdboefjaaGreatDoor.R
namespace Go.Proofs.YtblelojdboefjaaGreatDoor.R
open Go
section
variable {E:Env} {call:CallF} {N:Nat} {σ:St} {L:St→Prop} {d:Tmp} {ty:TypeId} {ps:String} {af:Array Edge} {gd:Option (Nat×Bool)}
def FZz:Op→Bool
 | .assign _| .alloc _| .box _ _| .buildSlice _ _ _| .call _| .store _ _ _=>false
 |_=>true
theorem Saz {op:Op} (h:FZz op=true):Cmz E call N ⟨some d,op,ty,ps,af,gd⟩ d σ=none:=by
 cases op<;>first|rfl|simp[FZz]at h
theorem Qsz {op:Op} (h:FZz op=true):BGz d op σ=σ:=by
 cases op<;>first|rfl|simp[FZz]at h
theorem Bvz {op:Op} (h:FZz op=true):Wp (ALz E call N ⟨some d,op,ty,ps,af,gd⟩ σ) L=
  Br (d<N) (Wp (some (clear d σ)) fun σ=>Wp (AMz E call N ⟨some d,op,ty,ps,af,gd⟩ σ) fun v=>Wp (some (σ.set d v)) L) False:=by
 by_cases hd:d<N
 ·simp only[ALz,hd,if_true,CXz,Ahz,Qsz h]
  cases hp:AMz E call N ⟨some d,op,ty,ps,af,gd⟩ (clear d σ)with
  |some v=>simp
  |none=>simp[Saz h]
 ·simp[ALz,hd,Br]
@[simp↓] theorem TBz {x}:Wp (ALz E call N ⟨some d,.move x,ty,ps,af,gd⟩ σ) L=Br (d<N) (Wp (some (clear d σ)) fun σ=>Wp (some (σ.set d (opd E.T N ty σ x))) L) False:=by
 rw[Bvz rfl];simp[AMz]
@[simp↓] theorem TAz {c a b}:Wp (ALz E call N ⟨some d,.pick c a b,ty,ps,af,gd⟩ σ) L=Br (d<N) (Wp (some (clear d σ)) fun σ=>Wp (opd E.T N ty σ c).bool? fun t=>Wp (some (σ.set d (if t then opd E.T N ty σ a else opd E.T N ty σ b))) L) False:=by
 rw[Bvz rfl];simp only[AMz,Brz]
@[simp↓] theorem Ubz {op t x y u}:Wp (ALz E call N ⟨some d,.binOp op t x y u,ty,ps,af,gd⟩ σ) L=Br (d<N) (Wp (some (clear d σ)) fun σ=>Wp (A6z E.T op t (opd E.T N ty σ x) (opd E.T N ty σ y)) fun v=>Wp (some (σ.set d (pvSV v))) L) False:=by
 rw[Bvz rfl];simp only[AMz,Brz]
@[simp↓] theorem WPz {op t x}:Wp (ALz E call N ⟨some d,.unOp op t x,ty,ps,af,gd⟩ σ) L=Br (d<N) (Wp (some (clear d σ)) fun σ=>Wp (unSV op (opd E.T N ty σ x)) fun v=>Wp (some (σ.set d (pvSV v))) L) False:=by
 rw[Bvz rfl];simp only[AMz,Brz]
@[simp↓] theorem TEz {s t x}:Wp (ALz E call N ⟨some d,.convert s t x,ty,ps,af,gd⟩ σ) L=Br (d<N) (Wp (some (clear d σ)) fun σ=>Wp (Ffz E.T s t (opd E.T N ty σ x)) fun v=>Wp (some (σ.set d v)) L) False:=by
 rw[Bvz rfl];rfl
@[simp↓] theorem Llz {t x f}:Wp (ALz E call N ⟨some d,.fieldAddr t x f,ty,ps,af,gd⟩ σ) L=Br (d<N) (Wp (some (clear d σ)) fun σ=>Wp (EAz E.T t (opd E.T N ty σ x) f) fun v=>Wp (some (σ.set d v)) L) False:=by
 rw[Bvz rfl];rfl
@[simp↓] theorem Lkz {t x i}:Wp (ALz E call N ⟨some d,.indexAddr t x i,ty,ps,af,gd⟩ σ) L=Br (d<N) (Wp (some (clear d σ)) fun σ=>Wp (EXz E.T t (opd E.T N ty σ x) (opd E.T N ty σ i)) fun v=>Wp (some (σ.set d v)) L) False:=by
 rw[Bvz rfl];rfl
@[simp↓] theorem Raz {t x i}:Wp (ALz E call N ⟨some d,.index t x i,ty,ps,af,gd⟩ σ) L=Br (d<N) (Wp (some (clear d σ)) fun σ=>Wp (Fgz E.T t (opd E.T N ty σ x) (opd E.T N ty σ i)) fun v=>Wp (some (σ.set d v)) L) False:=by
 rw[Bvz rfl];rfl
@[simp↓] theorem TDz {t x}:Wp (ALz E call N ⟨some d,.load t x,ty,ps,af,gd⟩ σ) L=Br (d<N) (Wp (some (clear d σ)) fun σ=>Wp (Cpz E.T σ t (opd E.T N ty σ x)) fun v=>Wp (some (σ.set d v)) L) False:=by
 rw[Bvz rfl];rfl
def Lhz (v:SV) (i:Nat):Option SV:=
 match v with
 | .c (.tup s) l=>comp i s l
 |_=>none
@[simp↓] theorem Oiz {x i}:Wp (ALz E call N ⟨some d,.extract x i,ty,ps,af,gd⟩ σ) L=Br (d<N) (Wp (some (clear d σ)) fun σ=>Wp (Lhz (opd E.T N ty σ x) i) fun v=>Wp (some (σ.set d v)) L) False:=by
 rw[Bvz rfl];rfl
@[simp↓] theorem RYz {t x lo hi}:Wp (ALz E call N ⟨some d,.slice t x lo hi none,ty,ps,af,gd⟩ σ) L=Br (d<N) (Wp (some (clear d σ)) fun σ=>Wp (ESz E.T t (opd E.T N ty σ x) (lo.map (opd E.T N ty σ)) (hi.map (opd E.T N ty σ))) fun v=>Wp (some (σ.set d v)) L) False:=by
 rw[Bvz rfl];rfl
@[simp↓] theorem NTz {x}:Wp (ALz E call N ⟨some d,.nilCheck x,ty,ps,af,gd⟩ σ) L=Br (d<N) (Wp (some (clear d σ)) fun σ=>Br (D9z (opd E.T N ty σ x)=true) (Wp (some (σ.set d (opd E.T N ty σ x))) L) False) False:=by
 rw[Bvz rfl]
 congr 1;congr 1;funext σ
 simp only[AMz,DAz,Ahz,DDz]
@[simp↓] theorem Rcz {t ps'}:Wp (ALz E call N ⟨some d,.build t ps',ty,ps,af,gd⟩ σ) L=Br (d<N) (Wp (some (clear d σ)) fun σ=>Wp (E.T.zr t) fun z=>Wp (E.T.ag t) fun a=>Br (a=true) (Wp (DVz E.T t (ps'.toList.map fun p=>(p.1,opd E.T N ty σ p.2)) (z.map (PV.cv false))) fun l=>Wp (some (σ.set d (.c .agg l))) L) False) False:=by
 rw[Bvz rfl]
 congr 1;congr 1;funext σ
 simp only[AMz,CMz,DAz,Ahz,DDz,Brz]
@[simp↓] theorem NUz {g caps}:Wp (ALz E call N ⟨some d,.makeFunc (.func g) #[] caps,ty,ps,af,gd⟩ σ) L=Br (d<N) (Wp (some (clear d σ)) fun σ=>Wp (caps.toList.mapM fun x=>Ehz (opd E.T N ty σ x)) fun l=>Wp (some (σ.set d (.fn g l))) L) False:=by
 rw[Bvz rfl]
 congr 1;congr 1;funext σ
 simp[AMz]
def Jiz (T:Tys) (t:TypeId) (n m:SV):Option SV:=(T.sl t).bind fun e=>(T.sz e).bind fun es=>(T.byt e).bind fun bs=>(T.zr e).bind fun z=>
   match n.int?,m.int? with
   |some (.i64,n),some (.i64,m)=>if n=m∧0≤n∧n≤LIM∧n*bs≤LIM∧z.length=es then some (.c .one [.ow false es (List.replicate n.toNat (if T.mo then z.map PV.zo else z))])else none
   |_,_=>none
@[simp↓] theorem Ljz {t n m}:Wp (ALz E call N ⟨some d,.makeSlice t n m,ty,ps,af,gd⟩ σ) L=Br (d<N) (Wp (some (clear d σ)) fun σ=>Wp (Jiz E.T t (opd E.T N ty σ n) (opd E.T N ty σ m)) fun v=>Wp (some (σ.set d v)) L) False:=by
 rw[Bvz rfl];rfl
def kpOf (T:Tys) (N:Nat):Option Nat:=if T.mo then some N else none
def FHz (kp:Option Nat) (d:Nat) (v:SV) (σ:St):Option (St×SV):=
 match v with
 | .c .one l=>(AUz kp d 0 l σ).map fun r=>(r.1,.c .one r.2)
 | .c .agg l=>(AUz kp d 0 l σ).map fun r=>(r.1,.c .agg r.2)
 | .bp s b=>some (σ,.bp s b)
 | .fn g caps=>some (σ,.fn g caps)
 |_=>none
def asgP (v:SV):Option SV:=match v with
   | .c .one l=>if l.all (fun c=>match c with| .sh _ _=>true|_=>false)then some (.c .one l)else none
   | .c .agg l=>if l.all (fun c=>match c with| .sh _ _=>true|_=>false)then some (.c .agg l)else none
   | .bp s b=>some (.bp s b)
   | .fn g caps=>some (.fn g caps)
   |_=>none
def asgE (kp:Option Nat) (d:Nat) (v:SV) (σ:St):Option (St×SV):=match v with
   | .c .one l=>(AUz kp d 0 l σ).map fun r=>(r.1,.c .one r.2)
   | .c .agg l=>(AUz kp d 0 l σ).map fun r=>(r.1,.c .agg r.2)
   |_=>none
theorem Ewz {kp:Option Nat} {d:Nat}:∀(l:List CV) (j:Nat) (σ:St),(l.all fun c=>match c with| .sh _ _=>true|_=>false)=true→AUz kp d j l σ=some (σ,l)
 |[],j,σ,h=>rfl
 |c::l,j,σ,h=>by
  simp only[List.all_cons,Bool.and_eq_true]at h
  cases c<;>simp at h
  simp[AUz,persist,DSz,Ewz l (j+1) σ (by simpa using h)]
@[simp↓] theorem Plz {x}:Wp (ALz E call N ⟨some d,.assign x,ty,ps,af,gd⟩ σ) L=Br (d<N) (Wp (some (clear d (BGz d (.assign x) σ))) fun σ=>Wp (FHz (kpOf E.T N) d (opd E.T N ty σ x) σ) fun r=>Wp (some (r.1.set d r.2)) L) False:=by
 by_cases hd:d<N
 ·simp only[ALz,hd,if_true,CXz,Ahz]
  generalize BGz d (.assign x) σ=σ
  generalize hv:opd E.T N ty (clear d σ) x=v
  have hp:AMz E call N ⟨some d,.assign x,ty,ps,af,gd⟩ (clear d σ)=asgP v:=by rw[←hv];rfl
  have he:Cmz E call N ⟨some d,.assign x,ty,ps,af,gd⟩ d (clear d σ)=asgE (kpOf E.T N) d v (clear d σ):=by rw[←hv];rfl
  rw[hp,he]
  cases v with
  |c sh l=>
   cases sh with
   |one=>
    by_cases hs:(l.all fun c=>match c with| .sh _ _=>true|_=>false)=true
    ·simp only[asgP,hs,if_true,FHz,Ewz l 0 _ hs,Option.map_some,Ahz]
    ·simp only[asgP,asgE,hs,if_false,FHz,Brz,Bool.false_eq_true,Ahz,Function.comp_def]
   |agg=>
    by_cases hs:(l.all fun c=>match c with| .sh _ _=>true|_=>false)=true
    ·simp only[asgP,hs,if_true,FHz,Ewz l 0 _ hs,Option.map_some,Ahz]
    ·simp only[asgP,asgE,hs,if_false,FHz,Brz,Bool.false_eq_true,Ahz,Function.comp_def]
   |_=>simp[FHz,asgP,asgE]
  |_=>simp[FHz,asgP,asgE]
 ·simp[ALz,hd,Br]
@[simp↓] theorem Rdz {t}:Wp (ALz E call N ⟨some d,.alloc t,ty,ps,af,gd⟩ σ) L=Br (d<N) (Wp (some (clear d σ)) fun σ=>Wp (E.T.zr t) fun z=>Wp (some (σ.set d (.c .box (z.map (PV.cv false))))) L) False:=by
 by_cases hd:d<N
 ·simp[ALz,hd,AMz,Cmz,BGz,kpOf]
 ·simp[ALz,hd,Br]
@[simp↓] theorem Uaz {t x}:Wp (ALz E call N ⟨some d,.box t x,ty,ps,af,gd⟩ σ) L=Br (d<N) (Wp (some (clear d σ)) fun σ=>Wp (E.T.sz t) fun n=>Wp (cells? (opd E.T N ty σ x)) fun cs=>Br (cs.length=n) (Wp (AUz (kpOf E.T N) d 0 cs σ) fun r=>Wp (some (r.1.set d (.c .box r.2))) L) False) False:=by
 by_cases hd:d<N
 ·simp[ALz,hd,AMz,Cmz,BGz,kpOf]
 ·simp[ALz,hd,Br]
@[simp↓] theorem YLz {x:Operand} {t:TypeId}:Wp (ALz E call N ⟨none,.call ⟨.builtin .clear,#[x],#[t]⟩,ty,ps,af,gd⟩ σ) L=Wp (HRz E.T σ t (opd E.T N ty σ x)) L:=rfl
@[simp↓] theorem RXz {t a x}:Wp (ALz E call N ⟨none,.store t a x,ty,ps,af,gd⟩ σ) L=Wp (FIz E.T N ty σ t a x) L:=rfl
end
end Go.Proofs.YtblelojdboefjaaGreatDoor.R
namespace Go.Proofs.YtblelojdboefjaaGreatDoor.R
open Go
def Ddz (σ:St) (q:List SV×List (Nat×Nat)×Bool) (r:Ret):Option (St×SV):=
 if r.boxes.length=0∧CIz r.res=true∧r.res.cells.all noBr=true then
  some (if r.res.cells.any CV.flag then back [] q.2.1 true σ else σ,r.res.reflag q.2.2)else none
def E4z {α β:Type} (o:Option α) (a:α→β) (b:β):β:=
 match o with
 |some h=>a h
 |none=>b
def Gfz (E:Env) (call:CallF) (N:Nat) (ty:TypeId) (d:Nat) (σ:St) (f:Operand) (xs:List Operand):Option (St×SV):=
 match opd E.T N ty σ f with
 | .fn g []=>E4z (E.T.so g) (fun h=>h d σ (xs.map (opd E.T N ty σ))) (if((xs.map (opd E.T N ty σ)).flatMap Ajz).isEmpty then(AZz 0 (xs.map (opd E.T N ty σ))).bind fun q=>(call g q.1 []).bind fun r=>Ddz σ q r
   else Bgz E call N ty d σ f xs)
 |_=>Bgz E call N ty d σ f xs
theorem Iez {g:Nat→CV→CV} (h:∀j c,g j c=c):∀(j:Nat) (l:List CV),Acz g j l=l
 |_,[]=>rfl
 |j,c::l=>by rw[Acz,h,Iez h]
theorem Tfz {g:Nat→CV→CV} {e:EpMap} (h:∀j c,g j c=c) (he:∀a b q,e a b q=some (a,b,q)) (x:SV):x.mapC g e=x:=by
 cases x with
 |c sh l=>simp only[SV.mapC,Iez h]
 |ep s o q kd fl es i f row=>simp[SV.mapC,he]
 |_=>rfl
theorem Gxz {g:Nat→Nat→CV→CV} {e:EpMap} (h:∀k j c,g k j c=c) (he:∀a b q,e a b q=some (a,b,q)):∀(k:Nat) (σ:St),Aez g e k σ=σ
 |_,[]=>rfl
 |k,x::l=>by rw[Aez,Tfz (h k) he,Gxz h he]
theorem NFz (l:List (Nat×Nat)) (σ:St) (h:(true&& !l.isEmpty)=false):back [] l true σ=σ:=by
 have:l=[]:=by simpa using h
 subst this
 exact Gxz (fun k j c=>by cases c<;>simp[CBz]) (fun a b q=>by simp[Dvz]) 0 σ
theorem RJz (l:List (Nat×Nat)) (σ:St):back [] l false σ=σ:=by
 refine Gxz (fun k j c=> ?_) (fun a b q=> ?_) 0 σ
 ·cases c<;>simp[CBz]
 ·simp[Dvz]
section
variable {E:Env} {call:CallF} {N:Nat} {σ:St} {L:St→Prop} {d:Tmp} {ty:TypeId} {ps:String} {af:Array Edge} {gd:Option (Nat×Bool)}
theorem NAz {f:Operand} {xs:List Operand} {g:FuncId} (hf:opd E.T N ty σ f= .fn g []) (hso:E.T.so g=none) (hg:(xs.map (opd E.T N ty σ)).flatMap Ajz=[]):
  Bgz E call N ty d σ f xs=(AZz 0 (xs.map (opd E.T N ty σ))).bind fun q=>(call g q.1 []).bind fun r=>Ddz σ q r:=by
 have hg':(xs.flatMap fun x=>Ajz (opd E.T N ty σ x))=[]:=by
  rw[←hg,List.flatMap_map]
 unfold Bgz
 simp only[hf,hso,hg',List.append_nil,Caz,settles,Option.bind_some,if_true,and_self]
 congr 1;funext q
 unfold Euz
 simp only[Bkz,Option.bind_some,List.length_nil,Nat.sub_self,List.range'_zero,List.map_nil,List.append_nil]
 rw[if_pos ⟨rfl,by simp⟩]
 congr 1;funext r
 unfold Ddz
 by_cases h:r.boxes.length=0∧CIz r.res=true∧r.res.cells.all noBr=true
 ·have hb:r.boxes=[]:=List.length_eq_zero_iff.1 h.1
  have h':=h.2.2
  simp only[List.all_eq_true]at h'
  simp only[hb,h.2.1,h.2.2,h',List.length_nil,List.all_nil,List.not_mem_nil,false_implies,implies_true,and_self,if_true,List.any_nil,Bool.or_false,List.map_nil,BJz]
  by_cases ha:r.res.cells.any CV.flag=true
  ·simp[ha]
  ·simp[ha,RJz]
 ·rw[if_neg h,if_neg]
  rintro⟨h1,h2,h3,h4⟩
  exact h ⟨h1,h2,by simpa using h3⟩
@[simp↓] theorem TGz {f:Operand} {xs:Array Operand} {tys:Array TypeId}:Wp (ALz E call N ⟨some d,.call ⟨.value f,xs,tys⟩,ty,ps,af,gd⟩ σ) L=
  Br (d<N) (Wp (some (clear d σ)) fun σ=>Wp (Gfz E call N ty d σ f xs.toList) fun r=>Wp (some (r.1.set d r.2)) L) False:=by
 by_cases hd:d<N
 ·simp only[ALz,hd,if_true,CXz,Ahz,BGz]
  have he:Cmz E call N ⟨some d,.call ⟨.value f,xs,tys⟩,ty,ps,af,gd⟩ d (clear d σ)=Bgz E call N ty d (clear d σ) f xs.toList:=rfl
  have hp:AMz E call N ⟨some d,.call ⟨.value f,xs,tys⟩,ty,ps,af,gd⟩ (clear d σ)=match opd E.T N ty (clear d σ) f with
   | .fn g []=>if(E.T.so g).isSome then none else if((xs.toList.map (opd E.T N ty (clear d σ))).flatMap Ajz).isEmpty then(AZz 0 (xs.toList.map (opd E.T N ty (clear d σ)))).bind fun q=>(call g q.1 []).bind fun r=>
     if r.boxes.length=0∧(r.res.cells.any CV.flag&& !q.2.1.isEmpty)=false∧CIz r.res=true∧r.res.cells.all noBr=true then some (r.res.reflag q.2.2)else none
    else none
   |_=>none:=rfl
  generalize clear d σ=τ at he hp ⊢
  rw[he,hp]
  have key:∀g,opd E.T N ty τ f= .fn g []→E.T.so g=none→((xs.toList.map (opd E.T N ty τ)).flatMap Ajz).isEmpty=true→_:=fun g h1 h0 h2=>NAz (call:=call) (d:=d) h1 h0 (List.isEmpty_iff.1 h2)
  unfold Gfz
  cases hf:opd E.T N ty τ f with
  |fn g caps=>
   cases caps with
   |nil=>
    cases hso:E.T.so g with
    |some h=>
     have:Bgz E call N ty d τ f xs.toList=h d τ (xs.toList.map (opd E.T N ty τ)):=by
      unfold Bgz
      simp only[hf,hso,if_true]
     simp only[hso,Option.isSome_some,if_true,E4z,this]
     simp
    |none=>
    simp only[hso,Option.isSome_none,Bool.false_eq_true,if_false,E4z]
    by_cases h2:((xs.toList.map (opd E.T N ty τ)).flatMap Ajz).isEmpty=true
    ·simp only[h2,if_true,key g hf hso h2]
     cases AZz 0 (xs.toList.map (opd E.T N ty τ))with
     |none=>simp
     |some q=>
      simp only[Option.bind_some,CMz]
      cases hr:call g q.1 []with
      |none=>simp
      |some r=>
       simp only[Option.bind_some,Ahz,Ddz]
       by_cases hc:r.boxes.length=0∧(r.res.cells.any CV.flag&& !q.2.1.isEmpty)=false∧CIz r.res=true∧r.res.cells.all noBr=true
       ·rw[if_pos hc,if_pos ⟨hc.1,hc.2.2⟩]
        cases hfl:r.res.cells.any CV.flag with
        |false=>simp only[Ahz,Bool.false_eq_true,if_false]
        |true=>
         have h9:=hc.2.1
         rw[hfl]at h9
         simp only[Ahz,if_true,NFz q.2.1 τ h9]
       ·rw[if_neg hc]
        simp
    ·simp[h2]
   |cons _ _=>simp
  |_=>simp
 ·simp[ALz,hd,Br]
@[simp↓] theorem UZz {x:Operand} {t:TypeId}:Wp (ALz E call N ⟨some d,.call ⟨.builtin .len,#[x],#[t]⟩,ty,ps,af,gd⟩ σ) L=
  Br (d<N) (Wp (some (clear d σ)) fun σ=>Wp (FAz E.T t (opd E.T N ty σ x)) fun v=>Wp (some (σ.set d v)) L) False:=by
 by_cases hd:d<N
 ·simp only[ALz,hd,if_true,CXz,Ahz,BGz]
  have hp:AMz E call N ⟨some d,.call ⟨.builtin .len,#[x],#[t]⟩,ty,ps,af,gd⟩ (clear d σ)=FAz E.T t (opd E.T N ty (clear d σ) x):=rfl
  have he:Cmz E call N ⟨some d,.call ⟨.builtin .len,#[x],#[t]⟩,ty,ps,af,gd⟩ d (clear d σ)=none:=rfl
  rw[hp,he]
  cases FAz E.T t (opd E.T N ty (clear d σ) x)<;>simp
 ·simp[ALz,hd,Br]
@[simp↓] theorem Pmz {x y:Operand} {t u:TypeId}:Wp (ALz E call N ⟨some d,.call ⟨.builtin .append,#[x,y],#[t,u]⟩,ty,ps,af,gd⟩ σ) L=
  Br (d<N) (Wp (some (clear d σ)) fun σ=>Br (((E.T.sl u).isSome||E.T.str u)=true) (Wp (DYz E.T σ d t (opd E.T N ty σ x) (opd E.T N ty σ y)) fun r=>Wp (some (r.1.set d r.2)) L) False) False:=by
 by_cases hd:d<N
 ·simp only[ALz,hd,if_true,CXz,Ahz,BGz]
  have hp:AMz E call N ⟨some d,.call ⟨.builtin .append,#[x,y],#[t,u]⟩,ty,ps,af,gd⟩ (clear d σ)=none:=rfl
  have he:Cmz E call N ⟨some d,.call ⟨.builtin .append,#[x,y],#[t,u]⟩,ty,ps,af,gd⟩ d (clear d σ)=if((E.T.sl u).isSome||E.T.str u)=true then DYz E.T (clear d σ) d t (opd E.T N ty (clear d σ) x) (opd E.T N ty (clear d σ) y)else none:=rfl
  rw[hp,he]
  simp only[Brz,DAz,DDz,Ahz]
 ·simp[ALz,hd,Br]
@[simp↓] theorem UYz {x y:Operand} {ts:Array TypeId}:Wp (ALz E call N ⟨some d,.call ⟨.builtin .min,#[x,y],ts⟩,ty,ps,af,gd⟩ σ) L=
  Br (d<N) (Wp (some (clear d σ)) fun σ=>Wp (min2 (opd E.T N ty σ x) (opd E.T N ty σ y)) fun v=>Wp (some (σ.set d v)) L) False:=by
 by_cases hd:d<N
 ·simp only[ALz,hd,if_true,CXz,Ahz,BGz]
  have hp:AMz E call N ⟨some d,.call ⟨.builtin .min,#[x,y],ts⟩,ty,ps,af,gd⟩ (clear d σ)=Cfz min2 (opd E.T N ty (clear d σ) x) [opd E.T N ty (clear d σ) y]:=rfl
  have he:Cmz E call N ⟨some d,.call ⟨.builtin .min,#[x,y],ts⟩,ty,ps,af,gd⟩ d (clear d σ)=none:=rfl
  rw[hp,he]
  simp only[Cfz]
  cases min2 (opd E.T N ty (clear d σ) x) (opd E.T N ty (clear d σ) y)<;>simp
 ·simp[ALz,hd,Br]
@[simp↓] theorem ACNz {x y:Operand} {ts:Array TypeId}:Wp (ALz E call N ⟨some d,.call ⟨.builtin .max,#[x,y],ts⟩,ty,ps,af,gd⟩ σ) L=
  Br (d<N) (Wp (some (clear d σ)) fun σ=>Wp (max2 (opd E.T N ty σ x) (opd E.T N ty σ y)) fun v=>Wp (some (σ.set d v)) L) False:=by
 by_cases hd:d<N
 ·simp only[ALz,hd,if_true,CXz,Ahz,BGz]
  have hp:AMz E call N ⟨some d,.call ⟨.builtin .max,#[x,y],ts⟩,ty,ps,af,gd⟩ (clear d σ)=Cfz max2 (opd E.T N ty (clear d σ) x) [opd E.T N ty (clear d σ) y]:=rfl
  have he:Cmz E call N ⟨some d,.call ⟨.builtin .max,#[x,y],ts⟩,ty,ps,af,gd⟩ d (clear d σ)=none:=rfl
  rw[hp,he]
  simp only[Cfz]
  cases max2 (opd E.T N ty (clear d σ) x) (opd E.T N ty (clear d σ) y)<;>simp
 ·simp[ALz,hd,Br]
end
def start (N:Nat) (args:List SV) (bs:List (List CV)):St:=args.map (BYz N)++List.replicate (N - args.length) .undef++bs.map (.c .box)
def finish (T:Tys) (N m:Nat) (rs:List ResultVar) (σ:St):Option Ret:=
 (BDz T false N σ.length 0 rs σ).bind fun q=>
  (settles ((List.range m).map (N+ ·)) q.1).bind fun σ=>
  (Bkz σ ((List.range m).map (N+ ·))).bind fun m=>if m.all (·.all noBr)then some ⟨.c (A9z q.2.1) q.2.2,m⟩else none
def Hbz (N:Nat) (args:List SV) (σ:St):St:=args.map (SV.up N)++List.replicate (N - args.length) .undef++upSt N σ
def EYz (T:Tys) (N d:Nat) (rs:List ResultVar) (σ:St):Option (St×SV):=
 (BDz T true N (N+d) 0 rs (wipe (N+d) σ)).map fun q=>
   let σ:=dnSt N (tidy N (List.range N) (q.1.set (N+d) (SV.c (A9z q.2.1) q.2.2)))
   (σ,σ.getD d .undef)
def ended:Ex→Prop
 | .exit _=>False
 |_=>True
@[simp] theorem Mwz:ended .normal=True:=rfl
@[simp] theorem Q5z:ended .ret=True:=rfl
@[simp] theorem PWz {i}:ended (.exit i)=False:=rfl
theorem RZz {E:Env} {n:Nat} {f:FuncId} {args:List SV} {bs:List (List CV)} {K:Ret→Prop} {fn:Func} {code:Code} (ho:E.orc f=none) (hf:E.fns f=some fn) (hb:fn.body=some code) (hl:args.length≤fn.ntmps)
  (h:Wp (AEz (E.run f (icall E n)) (pcall E n) fn.ntmps n code (start fn.ntmps args bs)) fun r=>ended r.1∧Wp (finish (E.run f (icall E n)).T fn.ntmps bs.length fn.results.toList r.2) K):Wp (pcall E (n+1) f args bs) K:=by
 obtain⟨⟨e,σ⟩,h1,h2,h3⟩:=h
 unfold start at h1
 simp only[Gqz,pbody,ho,hf,hb,Option.bind_some,hl,if_true,h1]
 cases e with
 |exit i=>exact h2.elim
 |normal=>exact h3
 |ret=>exact h3
theorem Rbz {E:Env} {n:Nat} {f:FuncId} {d:Nat} {τ:St} {args:List SV} {K:St×SV→Prop} {fn:Func} {code:Code} (hf:E.fns f=some fn) (hb:fn.body=some code) (hl:args.length≤fn.ntmps)
  (h:Wp (AEz (E.run f (icall E n)) (pcall E n) fn.ntmps n code (Hbz fn.ntmps args τ)) fun r=>ended r.1∧Wp (EYz (E.run f (icall E n)).T fn.ntmps d fn.results.toList r.2) K):Wp (icall E (n+1) f d τ args) K:=by
 obtain⟨⟨e,σ⟩,h1,h2,h3⟩:=h
 unfold Hbz at h1
 simp only[Jrz,ibody,hf,hb,Option.bind_some,hl,if_true,h1]
 cases e with
 |exit i=>exact h2.elim
 |normal=>exact h3
 |ret=>exact h3
theorem OMz {f:St→Option (Ex×St)} {K:Ex×St→Prop} (I:Nat→St→Prop) (h:∀k σ,I k σ→Wp (f σ) (cont (fun σ'=>∃k',k'<k∧I k' σ') K)):∀(n k:Nat) (σ:St),k<n→I k σ→Wp (iter f n σ) K
 |0,k,σ,hk,_=>absurd hk (Nat.not_lt_zero _)
 |n+1,k,σ,hk,hi=>by
  obtain⟨⟨e,σ'⟩,h1,h2⟩:=h k σ hi
  simp only[iter,h1,Option.bind_some]
  cases e with
  |normal=>
   obtain⟨k',hk',hi'⟩:=h2
   exact OMz I h n k' σ' (by omega) hi'
  |exit i=>exact Ahz▸h2
  |ret=>exact Ahz▸h2
theorem TCz {E:Env} {call:CallF} {N n:Nat} {b:Code} {σ:St} {K:Ex×St→Prop} (I:Nat→St→Prop) (k:Nat) (hk:k<n) (hi:I k σ)
  (h:∀k σ,I k σ→Wp (some (tidy N (E.D (BNz b)) σ)) fun σ=>Wp (AEz E call N n b σ) (cont (fun σ'=>∃k',k'<k∧I k' σ') K)):Wp (AEz E call N n (.loop b) σ) K:=by
 simp only[AEz]
 exact OMz I (fun k σ hi=>by have:=h k σ hi;rwa[Ahz]at this) n k σ hk hi
end Go.Proofs.YtblelojdboefjaaGreatDoor.R
namespace Go.Proofs.YtblelojdboefjaaGreatDoor.R
open Go
class Kont (α:Type)where
 run:α→Prop
class Later where
 it:Prop
def Wq {α:Type} (x:Option α) [k:Kont α]:Prop:=Wp x k.run
def Bq (c:Prop) [a:Later] [b:Later]:Prop:=Br c a.it b.it
section
variable {α β:Type}
@[go_sem] theorem ADLz {f:α→Prop} {a:α}:(Kont.mk f).run a=f a:=rfl
@[go_sem] theorem AB2z {A B:Later}: @Bq True A B=A.it:=CXz
@[go_sem] theorem Z4z {A B:Later}: @Bq False A B=B.it:=HHz
@[go_sem] theorem AGJz {p:Prop}:(Later.mk p).it=p:=rfl
@[go_sem] theorem ERz {a:α} {K:Kont α}: @Wq α (some a) K=K.run a:=Ahz
@[go_sem] theorem AACz {K:Kont α}: @Wq α none K=False:=DDz
@[go_sem ↓] theorem AADz {x:Option α} {g:α→Option β} {K:Kont β}: @Wq β (x.bind g) K= @Wq α x ⟨fun r=> @Wq β (g r) K⟩:=CMz
@[go_sem ↓] theorem ACLz {x:Option α} {g:α→β} {K:Kont β}: @Wq β (x.map g) K= @Wq α x ⟨fun r=>K.run (g r)⟩:=Brz
@[go_sem ↓] theorem ACMz {c:Prop} [Decidable c] {x y:Option α} {K:Kont α}: @Wq α (if c then x else y) K= @Bq c ⟨@Wq α x K⟩ ⟨@Wq α y K⟩:=DAz
theorem Wq.mono {x:Option α} {K L:Kont α} (h: @Wq α x K) (hk:∀r,K.run r→L.run r): @Wq α x L:=Wp.mono h hk
theorem Auz {x:Option α} {r:α} {K:Kont α} (h:x=some r) (hk:K.run r): @Wq α x K:=WQz h hk
theorem Doz {c:Prop} {A B:Later} (h1:c→A.it) (h2:¬c→B.it): @Bq c A B:=⟨h1,h2⟩
theorem BPz {c:Prop} {A B:Later} (h:c) (h1:A.it): @Bq c A B:=VZz h h1
theorem Evz {c:Prop} {A B:Later} (h:¬c) (h1:B.it): @Bq c A B:=Vaz h h1
end
attribute [go_sem ↓] Nwz RAz Shz Pgz T4z
@[go_sem ↓] theorem YJz {i j:Nat} {K:Ex×St→Prop} {σ:St}:blk i K (.exit j,σ)=if j=i then K (.normal,σ)else K (.exit j,σ):=rfl
section
variable {E:Env} {call:CallF} {N n:Nat} {σ:St} {K:Kont (Ex×St)} {L:Kont St} {d:Tmp} {ty:TypeId} {ps:String} {af:Array Edge} {gd:Option (Nat×Bool)}
@[go_sem ↓] theorem AARz: @Wq _ (AEz E call N n .skip σ) K= @Wq _ (some σ) ⟨fun σ=>K.run (.normal,σ)⟩:=wp_skip
@[go_sem ↓] theorem AAXz {i}: @Wq _ (AEz E call N n (.exit i) σ) K= @Wq _ (some σ) ⟨fun σ=>K.run (.exit i,σ)⟩:=wp_exit
@[go_sem ↓] theorem ADNz: @Wq _ (AEz E call N n .ret σ) K= @Wq _ (some σ) ⟨fun σ=>K.run (.ret,σ)⟩:=wp_ret
@[go_sem ↓] theorem ADMz {a b:Code}: @Wq _ (AEz E call N n (.seq a b) σ) K= @Wq _ (AEz E call N n a σ) ⟨cont (fun σ=> @Wq _ (AEz E call N n b σ) K) K.run⟩:=wp_seq
@[go_sem ↓] theorem AAaz {c:Operand} {t e:Code}: @Wq _ (AEz E call N n (.cond c t e) σ) K= @Wq _ (some σ) ⟨fun σ=> @Wq _ (opd E.T N 0 σ c).bool? ⟨fun x=> @Bq (x=true) ⟨@Wq _ (AEz E call N n t σ) K⟩ ⟨@Wq _ (AEz E call N n e σ) K⟩⟩⟩:=wp_cond
@[go_sem ↓] theorem Yaz {id:Nat} {b:Code}: @Wq _ (AEz E call N n (.block id b) σ) K= @Wq _ (AEz E call N n b σ) ⟨blk id K.run⟩:=wp_block
@[go_sem ↓] theorem XRz {id:Nat} {ops:Array Oper}: @Wq _ (AEz E call N n (.region id ops false) σ) K= @Wq _ (runL E call N ops ops.toList σ) ⟨fun σ=>K.run (.normal,σ)⟩:=wp_region
@[go_sem ↓] theorem ADOz {ops:Array Oper}: @Wq _ (runL E call N ops [] σ) L= @Wq _ (some σ) L:=UXz
@[go_sem ↓] theorem AAZz {ops:Array Oper} {d:Option Tmp} {op:Op} {ty:TypeId} {ps:String} {af:Array Edge} {r:List Oper}: @Wq _ (runL E call N ops (⟨d,op,ty,ps,af,none⟩::r) σ) L= @Wq _ (ALz E call N ⟨d,op,ty,ps,af,none⟩ σ) ⟨fun σ=> @Wq _ (runL E call N ops r σ) L⟩:=TFz
@[go_sem ↓] theorem T8z {ops:Array Oper} {d:Tmp} {op:Op} {ty:TypeId} {ps:String} {af:Array Edge} {j:Nat} {want:Bool} {r:List Oper}: @Wq _ (runL E call N ops (⟨some d,op,ty,ps,af,some (j,want)⟩::r) σ) L= @Wq _ (some σ) ⟨fun σ=> @Wq _ ((ops[j]?).bind (·.dst)) ⟨fun t=> @Bq (t<N∧d<N) ⟨@Wq _ (gval (σ.getD t .undef)) ⟨fun b=> @Bq (b=some want) ⟨@Wq _ (ALz E call N ⟨some d,op,ty,ps,af,some (j,want)⟩ σ) ⟨fun σ=> @Wq _ (runL E call N ops r σ) L⟩⟩ ⟨@Wq _ (some ((clear d σ).set d skipSV)) ⟨fun σ=> @Wq _ (runL E call N ops r σ) L⟩⟩⟩⟩ ⟨False⟩⟩⟩:=LUz
@[go_sem ↓] theorem AAVz {x}: @Wq _ (ALz E call N ⟨some d,.move x,ty,ps,af,gd⟩ σ) L= @Bq (d<N) ⟨@Wq _ (some (clear d σ)) ⟨fun σ=> @Wq _ (some (σ.set d (opd E.T N ty σ x))) L⟩⟩ ⟨False⟩:=TBz
@[go_sem ↓] theorem AAUz {c a b}: @Wq _ (ALz E call N ⟨some d,.pick c a b,ty,ps,af,gd⟩ σ) L= @Bq (d<N) ⟨@Wq _ (some (clear d σ)) ⟨fun σ=> @Wq _ (opd E.T N ty σ c).bool? ⟨fun t=> @Wq _ (some (σ.set d (if t then opd E.T N ty σ a else opd E.T N ty σ b))) L⟩⟩⟩ ⟨False⟩:=TAz
@[go_sem ↓] theorem ADSz {op t x y u}: @Wq _ (ALz E call N ⟨some d,.binOp op t x y u,ty,ps,af,gd⟩ σ) L= @Bq (d<N) ⟨@Wq _ (some (clear d σ)) ⟨fun σ=> @Wq _ (A6z E.T op t (opd E.T N ty σ x) (opd E.T N ty σ y)) ⟨fun v=> @Wq _ (some (σ.set d (pvSV v))) L⟩⟩⟩ ⟨False⟩:=Ubz
@[go_sem ↓] theorem AGEz {op t x}: @Wq _ (ALz E call N ⟨some d,.unOp op t x,ty,ps,af,gd⟩ σ) L= @Bq (d<N) ⟨@Wq _ (some (clear d σ)) ⟨fun σ=> @Wq _ (unSV op (opd E.T N ty σ x)) ⟨fun v=> @Wq _ (some (σ.set d (pvSV v))) L⟩⟩⟩ ⟨False⟩:=WPz
@[go_sem ↓] theorem AAYz {s t x}: @Wq _ (ALz E call N ⟨some d,.convert s t x,ty,ps,af,gd⟩ σ) L= @Bq (d<N) ⟨@Wq _ (some (clear d σ)) ⟨fun σ=> @Wq _ (Ffz E.T s t (opd E.T N ty σ x)) ⟨fun v=> @Wq _ (some (σ.set d v)) L⟩⟩⟩ ⟨False⟩:=TEz
@[go_sem ↓] theorem Uzz {t x f}: @Wq _ (ALz E call N ⟨some d,.fieldAddr t x f,ty,ps,af,gd⟩ σ) L= @Bq (d<N) ⟨@Wq _ (some (clear d σ)) ⟨fun σ=> @Wq _ (EAz E.T t (opd E.T N ty σ x) f) ⟨fun v=> @Wq _ (some (σ.set d v)) L⟩⟩⟩ ⟨False⟩:=Llz
@[go_sem ↓] theorem Uyz {t x i}: @Wq _ (ALz E call N ⟨some d,.indexAddr t x i,ty,ps,af,gd⟩ σ) L= @Bq (d<N) ⟨@Wq _ (some (clear d σ)) ⟨fun σ=> @Wq _ (EXz E.T t (opd E.T N ty σ x) (opd E.T N ty σ i)) ⟨fun v=> @Wq _ (some (σ.set d v)) L⟩⟩⟩ ⟨False⟩:=Lkz
@[go_sem ↓] theorem YYz {t x i}: @Wq _ (ALz E call N ⟨some d,.index t x i,ty,ps,af,gd⟩ σ) L= @Bq (d<N) ⟨@Wq _ (some (clear d σ)) ⟨fun σ=> @Wq _ (Fgz E.T t (opd E.T N ty σ x) (opd E.T N ty σ i)) ⟨fun v=> @Wq _ (some (σ.set d v)) L⟩⟩⟩ ⟨False⟩:=Raz
@[go_sem ↓] theorem AAWz {t x}: @Wq _ (ALz E call N ⟨some d,.load t x,ty,ps,af,gd⟩ σ) L= @Bq (d<N) ⟨@Wq _ (some (clear d σ)) ⟨fun σ=> @Wq _ (Cpz E.T σ t (opd E.T N ty σ x)) ⟨fun v=> @Wq _ (some (σ.set d v)) L⟩⟩⟩ ⟨False⟩:=TDz
@[go_sem ↓] theorem Wcz {x i}: @Wq _ (ALz E call N ⟨some d,.extract x i,ty,ps,af,gd⟩ σ) L= @Bq (d<N) ⟨@Wq _ (some (clear d σ)) ⟨fun σ=> @Wq _ (Lhz (opd E.T N ty σ x) i) ⟨fun v=> @Wq _ (some (σ.set d v)) L⟩⟩⟩ ⟨False⟩:=Oiz
@[go_sem ↓] theorem YWz {t x lo hi}: @Wq _ (ALz E call N ⟨some d,.slice t x lo hi none,ty,ps,af,gd⟩ σ) L= @Bq (d<N) ⟨@Wq _ (some (clear d σ)) ⟨fun σ=> @Wq _ (ESz E.T t (opd E.T N ty σ x) (lo.map (opd E.T N ty σ)) (hi.map (opd E.T N ty σ))) ⟨fun v=> @Wq _ (some (σ.set d v)) L⟩⟩⟩ ⟨False⟩:=RYz
@[go_sem ↓] theorem Vjz {x}: @Wq _ (ALz E call N ⟨some d,.nilCheck x,ty,ps,af,gd⟩ σ) L= @Bq (d<N) ⟨@Wq _ (some (clear d σ)) ⟨fun σ=> @Bq (D9z (opd E.T N ty σ x)=true) ⟨@Wq _ (some (σ.set d (opd E.T N ty σ x))) L⟩ ⟨False⟩⟩⟩ ⟨False⟩:=NTz
@[go_sem ↓] theorem YZz {t ps'}: @Wq _ (ALz E call N ⟨some d,.build t ps',ty,ps,af,gd⟩ σ) L= @Bq (d<N) ⟨@Wq _ (some (clear d σ)) ⟨fun σ=> @Wq _ (E.T.zr t) ⟨fun z=> @Wq _ (E.T.ag t) ⟨fun a=> @Bq (a=true) ⟨@Wq _ (DVz E.T t (ps'.toList.map fun p=>(p.1,opd E.T N ty σ p.2)) (z.map (PV.cv false))) ⟨fun l=> @Wq _ (some (σ.set d (.c .agg l))) L⟩⟩ ⟨False⟩⟩⟩⟩⟩ ⟨False⟩:=Rcz
@[go_sem ↓] theorem Vkz {g caps}: @Wq _ (ALz E call N ⟨some d,.makeFunc (.func g) #[] caps,ty,ps,af,gd⟩ σ) L= @Bq (d<N) ⟨@Wq _ (some (clear d σ)) ⟨fun σ=> @Wq _ (caps.toList.mapM fun x=>Ehz (opd E.T N ty σ x)) ⟨fun l=> @Wq _ (some (σ.set d (.fn g l))) L⟩⟩⟩ ⟨False⟩:=NUz
@[go_sem ↓] theorem Uxz {t n m}: @Wq _ (ALz E call N ⟨some d,.makeSlice t n m,ty,ps,af,gd⟩ σ) L= @Bq (d<N) ⟨@Wq _ (some (clear d σ)) ⟨fun σ=> @Wq _ (Jiz E.T t (opd E.T N ty σ n) (opd E.T N ty σ m)) ⟨fun v=> @Wq _ (some (σ.set d v)) L⟩⟩⟩ ⟨False⟩:=Ljz
@[go_sem ↓] theorem XSz {x}: @Wq _ (ALz E call N ⟨some d,.assign x,ty,ps,af,gd⟩ σ) L= @Bq (d<N) ⟨@Wq _ (some (clear d (BGz d (.assign x) σ))) ⟨fun σ=> @Wq _ (FHz (kpOf E.T N) d (opd E.T N ty σ x) σ) ⟨fun r=> @Wq _ (some (r.1.set d r.2)) L⟩⟩⟩ ⟨False⟩:=Plz
@[go_sem ↓] theorem Ybz {t}: @Wq _ (ALz E call N ⟨some d,.alloc t,ty,ps,af,gd⟩ σ) L= @Bq (d<N) ⟨@Wq _ (some (clear d σ)) ⟨fun σ=> @Wq _ (E.T.zr t) ⟨fun z=> @Wq _ (some (σ.set d (.c .box (z.map (PV.cv false))))) L⟩⟩⟩ ⟨False⟩:=Rdz
@[go_sem ↓] theorem ADRz {t x}: @Wq _ (ALz E call N ⟨some d,.box t x,ty,ps,af,gd⟩ σ) L= @Bq (d<N) ⟨@Wq _ (some (clear d σ)) ⟨fun σ=> @Wq _ (E.T.sz t) ⟨fun n=> @Wq _ (cells? (opd E.T N ty σ x)) ⟨fun cs=> @Bq (cs.length=n) ⟨@Wq _ (AUz (kpOf E.T N) d 0 cs σ) ⟨fun r=> @Wq _ (some (r.1.set d (.c .box r.2))) L⟩⟩ ⟨False⟩⟩⟩⟩⟩ ⟨False⟩:=Uaz
@[go_sem ↓] theorem YVz {t a x}: @Wq _ (ALz E call N ⟨none,.store t a x,ty,ps,af,gd⟩ σ) L= @Wq _ (FIz E.T N ty σ t a x) L:=RXz
@[go_sem ↓] theorem AAbz {f:Operand} {xs:Array Operand} {tys:Array TypeId}: @Wq _ (ALz E call N ⟨some d,.call ⟨.value f,xs,tys⟩,ty,ps,af,gd⟩ σ) L= @Bq (d<N) ⟨@Wq _ (some (clear d σ)) ⟨fun σ=> @Wq _ (Gfz E call N ty d σ f xs.toList) ⟨fun r=> @Wq _ (some (r.1.set d r.2)) L⟩⟩⟩ ⟨False⟩:=TGz
@[go_sem ↓] theorem ADQz {x:Operand} {t:TypeId}: @Wq _ (ALz E call N ⟨some d,.call ⟨.builtin .len,#[x],#[t]⟩,ty,ps,af,gd⟩ σ) L= @Bq (d<N) ⟨@Wq _ (some (clear d σ)) ⟨fun σ=> @Wq _ (FAz E.T t (opd E.T N ty σ x)) ⟨fun v=> @Wq _ (some (σ.set d v)) L⟩⟩⟩ ⟨False⟩:=UZz
@[go_sem ↓] theorem XTz {x y:Operand} {t u:TypeId}: @Wq _ (ALz E call N ⟨some d,.call ⟨.builtin .append,#[x,y],#[t,u]⟩,ty,ps,af,gd⟩ σ) L= @Bq (d<N) ⟨@Wq _ (some (clear d σ)) ⟨fun σ=> @Bq (((E.T.sl u).isSome||E.T.str u)=true) ⟨@Wq _ (DYz E.T σ d t (opd E.T N ty σ x) (opd E.T N ty σ y)) ⟨fun r=> @Wq _ (some (r.1.set d r.2)) L⟩⟩ ⟨False⟩⟩⟩ ⟨False⟩:=Pmz
@[go_sem ↓] theorem ADPz {x y:Operand} {ts:Array TypeId}: @Wq _ (ALz E call N ⟨some d,.call ⟨.builtin .min,#[x,y],ts⟩,ty,ps,af,gd⟩ σ) L= @Bq (d<N) ⟨@Wq _ (some (clear d σ)) ⟨fun σ=> @Wq _ (min2 (opd E.T N ty σ x) (opd E.T N ty σ y)) ⟨fun v=> @Wq _ (some (σ.set d v)) L⟩⟩⟩ ⟨False⟩:=UYz
end
theorem ADz {E:Env} {n:Nat} {f:FuncId} {args:List SV} {bs:List (List CV)} {K:Kont Ret} {fn:Func} {code:Code} (ho:E.orc f=none) (hf:E.fns f=some fn) (hb:fn.body=some code) (hl:args.length≤fn.ntmps)
  (h: @Wq _ (AEz (E.run f (icall E n)) (pcall E n) fn.ntmps n code (start fn.ntmps args bs)) ⟨fun r=>ended r.1∧ @Wq _ (finish (E.run f (icall E n)).T fn.ntmps bs.length fn.results.toList r.2) K⟩): @Wq _ (pcall E (n+1) f args bs) K:=RZz ho hf hb hl h
theorem RVz {E:Env} {n:Nat} {f:FuncId} {d:Nat} {τ:St} {args:List SV} {K:Kont (St×SV)} {fn:Func} {code:Code} (hf:E.fns f=some fn) (hb:fn.body=some code) (hl:args.length≤fn.ntmps)
  (h: @Wq _ (AEz (E.run f (icall E n)) (pcall E n) fn.ntmps n code (Hbz fn.ntmps args τ)) ⟨fun r=>ended r.1∧ @Wq _ (EYz (E.run f (icall E n)).T fn.ntmps d fn.results.toList r.2) K⟩): @Wq _ (icall E (n+1) f d τ args) K:=Rbz hf hb hl h
theorem S9z {E:Env} {call:CallF} {N n:Nat} {b:Code} {σ:St} {K:Kont (Ex×St)} (I:Nat→St→Prop) (k:Nat) (hk:k<n) (hi:I k σ)
  (h:∀k σ,I k σ→ @Wq _ (some (tidy N (E.D (BNz b)) σ)) ⟨fun σ=> @Wq _ (AEz E call N n b σ) ⟨cont (fun σ'=>∃k',k'<k∧I k' σ') K.run⟩⟩): @Wq _ (AEz E call N n (.loop b) σ) K:=TCz I k hk hi h
theorem ARz {α:Type} {x:Option α} {r:α} (h: @Wq α x ⟨fun s=>s=r⟩):x=some r:=WRz h
end Go.Proofs.YtblelojdboefjaaGreatDoor.R
namespace Go.Proofs.YtblelojdboefjaaGreatDoor.R
open Go
section
variable {T:Tys} {N:Nat} {ty:TypeId} {σ:St}
@[go_sem] theorem AAlz {t:Nat}:opd T N ty σ (.tmp t)=if t<N then(σ.getD t .undef).view t else .undef:=rfl
@[go_sem] theorem XZz {v:Value}:opd T N ty σ (.const v)=DGz T ty v:=rfl
@[go_sem] theorem Ykz {f:FuncId}:opd T N ty σ (.func f)= .fn f []:=rfl
@[go_sem] theorem YDz {k n}:DGz T ty (.int k n)= .c .one [.sh false (.i k n)]:=rfl
@[go_sem] theorem XFz {b}:DGz T ty (.bool b)= .c .one [.sh false (.b b)]:=rfl
@[go_sem] theorem YCz {s}:DGz T ty (.string s)= .c .one [.sh false (.t s)]:=rfl
@[go_sem] theorem XEz:DGz T ty (.slice none 0 0)=match(T.sl ty).bind T.sz with
  |some es=> .c .one [.ow false es []]
  |none=> .undef:=rfl
@[go_sem] theorem XJz {k}:skipSV.view k=skipSV:=rfl
@[go_sem] theorem Xfz {g e}:skipSV.mapC g e=skipSV:=rfl
@[go_sem] theorem Zwz {s}:skipSV.cut s=skipSV:=rfl
@[go_sem] theorem YBz {s}:SV.undef.cut s= .undef:=rfl
@[go_sem] theorem AG4z {s sh l}:(SV.c sh l).cut s= .c sh l:=rfl
@[go_sem] theorem AFEz {s a o}:(SV.bp a o).cut s=if a=s then .undef else .bp a o:=rfl
@[go_sem] theorem AFDz {t s o q kd fl es i f row}:(SV.ep s o q kd fl es i f row).cut t= .ep s o q kd fl es i f row:=rfl
@[go_sem] theorem AFBz {t fl row f}:(SV.sp fl row f).cut t= .sp fl row f:=rfl
@[go_sem] theorem AFCz {s g caps}:(SV.fn g caps).cut s=if caps.contains s then .undef else .fn g caps:=rfl
@[go_sem] theorem Xyz:gval skipSV=some none:=rfl
@[go_sem] theorem Xzz {f b}:gval (.c .one [.sh f (.b b)])=some (some b):=rfl
@[go_sem] theorem Xaz {α:Type} {a:α}:(none=some a)=False:=by simp
@[go_sem] theorem XOz {α:Type} {a b:α}:(some a=some b)=(a=b):=by simp
@[go_sem] theorem WTz {k}:SV.undef.view k= .undef:=rfl
@[go_sem] theorem YOz {k l}:(SV.c .box l).view k= .bp k 0:=rfl
@[go_sem] theorem YNz {k l}:(SV.c .one l).view k= .c .one (Acz (CV.view k) 0 l):=rfl
@[go_sem] theorem YPz {k l}:(SV.c .agg l).view k= .c .agg (Acz (CV.view k) 0 l):=rfl
@[go_sem] theorem YMz {k s l}:(SV.c (.tup s) l).view k= .c (.tup s) (Acz (CV.view k) 0 l):=rfl
@[go_sem] theorem AAHz {k s o}:(SV.bp s o).view k= .bp s o:=rfl
@[go_sem] theorem AAGz {k s o q kd fl es i f row}:(SV.ep s o q kd fl es i f row).view k= .ep s o q kd fl es i f row:=rfl
@[go_sem] theorem AAEz {k fl row f}:(SV.sp fl row f).view k= .sp fl row f:=rfl
@[go_sem] theorem AAFz {k g caps}:(SV.fn g caps).view k= .fn g caps:=rfl
@[go_sem] theorem Ztz {k j f p}:(CV.sh f p).view k j= .sh f p:=rfl
@[go_sem] theorem Zuz {k j f es rows}:(CV.ow f es rows).view k j= .br k j [] 0 0 f es rows:=rfl
@[go_sem] theorem Zvz {k j s o q kd lo f es rows}:(CV.br s o q kd lo f es rows).view k j= .br s o q kd lo f es rows:=rfl
@[go_sem] theorem XDz {k j}:CV.dead.view k j= .dead:=rfl
@[go_sem] theorem Wnz {g j}:Acz g j []=[]:=rfl
@[go_sem] theorem Voz {g j c l}:Acz g j (c::l)=g j c::Acz g (j+1) l:=rfl
@[go_sem] theorem AAdz {p}:pvSV p= .c .one [.sh false p]:=rfl
@[go_sem] theorem AAmz {y}:(SV.c .one [y]).one?=some y:=rfl
@[go_sem] theorem Svz {f p}:(SV.c .one [.sh f p]).pv?=some p:=rfl
@[go_sem] theorem AGFz {f es rows}:(SV.c .one [.ow f es rows]).pv?=some (.s es (Agz rows)):=rfl
@[go_sem] theorem AGGz {s o q kd lo f es rows}:(SV.c .one [.br s o q kd lo f es rows]).pv?=some (.s es (Agz rows)):=rfl
@[go_sem] theorem ADcz {f k n}:(SV.c .one [.sh f (.i k n)]).int?=some (k,n):=rfl
@[go_sem] theorem AB3z {f b}:(SV.c .one [.sh f (.b b)]).bool?=some b:=rfl
@[go_sem] theorem AG5z {f p}:(CV.sh f p).p?=some (f,p):=rfl
@[go_sem] theorem AG6z {f es rows}:(CV.ow f es rows).p?=some (f,.s es (Agz rows)):=rfl
@[go_sem] theorem AG7z {s o q kd lo f es rows}:(CV.br s o q kd lo f es rows).p?=some (f,.s es (Agz rows)):=rfl
def ONz:BinOp→Bool
 | .shl| .shr=>true
 |_=>false
def andI (k:IntKind) (a b:Int):Int:=k.wrap (BitVec.ofInt k.bits a&&&BitVec.ofInt k.bits b).toNat
def orI (k:IntKind) (a b:Int):Int:=k.wrap (BitVec.ofInt k.bits a|||BitVec.ofInt k.bits b).toNat
def xorI (k:IntKind) (a b:Int):Int:=k.wrap (BitVec.ofInt k.bits a^^^BitVec.ofInt k.bits b).toNat
theorem CAz {op:BinOp} (h:ONz op=false) {t f g k a b}:A6z T op t (.c .one [.sh f (.i k a)]) (.c .one [.sh g (.i k b)])=Lgz op k a b:=by
 cases op<;>simp[ONz]at h<;>simp[A6z,Svz]
@[go_sem] theorem AB7z {t f g k k' a b}:A6z T .shl t (.c .one [.sh f (.i k a)]) (.c .one [.sh g (.i k' b)])=FJz .shl k a b:=rfl
@[go_sem] theorem AB6z {t f g k k' a b}:A6z T .shr t (.c .one [.sh f (.i k a)]) (.c .one [.sh g (.i k' b)])=FJz .shr k a b:=rfl
section
variable {t:TypeId} {f g:Bool} {k:IntKind} {a b:Int}
@[go_sem] theorem ACKz:A6z T .add t (.c .one [.sh f (.i k a)]) (.c .one [.sh g (.i k b)])=some (.i k (k.wrap (a+b))):=by rw[CAz rfl];rfl
@[go_sem] theorem AB5z:A6z T .sub t (.c .one [.sh f (.i k a)]) (.c .one [.sh g (.i k b)])=some (.i k (k.wrap (a - b))):=by rw[CAz rfl];rfl
@[go_sem] theorem ACBz:A6z T .mul t (.c .one [.sh f (.i k a)]) (.c .one [.sh g (.i k b)])=some (.i k (k.wrap (a*b))):=by rw[CAz rfl];rfl
@[go_sem] theorem AB9z:A6z T .quo t (.c .one [.sh f (.i k a)]) (.c .one [.sh g (.i k b)])=if b=0 then none else some (.i k (k.wrap (a.tdiv b))):=by rw[CAz rfl];rfl
@[go_sem] theorem AB8z:A6z T .rem t (.c .one [.sh f (.i k a)]) (.c .one [.sh g (.i k b)])=if b=0 then none else some (.i k (a.tmod b)):=by rw[CAz rfl];rfl
@[go_sem] theorem ACIz:A6z T .and t (.c .one [.sh f (.i k a)]) (.c .one [.sh g (.i k b)])=some (.i k (andI k a b)):=by rw[CAz rfl];rfl
@[go_sem] theorem AFbz:A6z T .or t (.c .one [.sh f (.i k a)]) (.c .one [.sh g (.i k b)])=some (.i k (orI k a b)):=by rw[CAz rfl];rfl
@[go_sem] theorem AB4z:A6z T .xor t (.c .one [.sh f (.i k a)]) (.c .one [.sh g (.i k b)])=some (.i k (xorI k a b)):=by rw[CAz rfl];rfl
@[go_sem] theorem ACGz:A6z T .eql t (.c .one [.sh f (.i k a)]) (.c .one [.sh g (.i k b)])=some (.b (a==b)):=by rw[CAz rfl];rfl
@[go_sem] theorem ACAz:A6z T .neq t (.c .one [.sh f (.i k a)]) (.c .one [.sh g (.i k b)])=some (.b (a !=b)):=by rw[CAz rfl];rfl
@[go_sem] theorem ACCz:A6z T .lss t (.c .one [.sh f (.i k a)]) (.c .one [.sh g (.i k b)])=some (.b (a<b)):=by rw[CAz rfl];rfl
@[go_sem] theorem ACDz:A6z T .leq t (.c .one [.sh f (.i k a)]) (.c .one [.sh g (.i k b)])=some (.b (a≤b)):=by rw[CAz rfl];rfl
@[go_sem] theorem ACEz:A6z T .gtr t (.c .one [.sh f (.i k a)]) (.c .one [.sh g (.i k b)])=some (.b (a>b)):=by rw[CAz rfl];rfl
@[go_sem] theorem ACFz:A6z T .geq t (.c .one [.sh f (.i k a)]) (.c .one [.sh g (.i k b)])=some (.b (a≥b)):=by rw[CAz rfl];rfl
variable {x y:ByteArray}
@[go_sem] theorem ACHz:A6z T .add t (.c .one [.sh f (.t x)]) (.c .one [.sh g (.t y)])=if((x.size+y.size:Nat):Int)>IntKind.i64.max then none else some (.t (x++y)):=rfl
@[go_sem] theorem AAAz:A6z T .eql t (.c .one [.sh f (.t x)]) (.c .one [.sh g (.t y)])=some (.b (x.toList==y.toList)):=rfl
@[go_sem] theorem Z5z:A6z T .neq t (.c .one [.sh f (.t x)]) (.c .one [.sh g (.t y)])=some (.b !(x.toList==y.toList)):=rfl
@[go_sem] theorem Z6z:A6z T .lss t (.c .one [.sh f (.t x)]) (.c .one [.sh g (.t y)])=some (.b (Op.bytesLess x.toList y.toList)):=rfl
@[go_sem] theorem Z7z:A6z T .leq t (.c .one [.sh f (.t x)]) (.c .one [.sh g (.t y)])=some (.b (Op.bytesLess x.toList y.toList||x.toList==y.toList)):=rfl
@[go_sem] theorem Z8z:A6z T .gtr t (.c .one [.sh f (.t x)]) (.c .one [.sh g (.t y)])=some (.b !(Op.bytesLess x.toList y.toList||x.toList==y.toList)):=rfl
@[go_sem] theorem Z9z:A6z T .geq t (.c .one [.sh f (.t x)]) (.c .one [.sh g (.t y)])=some (.b !(Op.bytesLess x.toList y.toList)):=rfl
variable {p q:Bool}
@[go_sem] theorem ACJz {op:BinOp} {l m:List CV}:A6z T op t (.c .agg l) (.c .agg m)=KHz T op t (.c .agg l) (.c .agg m):=rfl
attribute [go_sem] KHz Boz eqRow? pvs? PV.eq?
@[go_sem] theorem AABz:A6z T .neq t (.c .one [.sh f (.b p)]) (.c .one [.sh g (.b q)])=if T.boo t then some (.b !(p==q))else none:=by simp[A6z,Svz]
@[go_sem] theorem ACSz:unSV .not (.c .one [.sh f (.b p)])=some (.b !p):=rfl
@[go_sem] theorem ACRz:unSV .xor (.c .one [.sh f (.i k a)])=some (.i k (xorI k (if k.signed then -1 else k.max) a)):=rfl
@[go_sem] theorem ACTz:unSV .neg (.c .one [.sh f (.i k a)])=some (.i k (k.wrap (0 - a))):=rfl
end
def demL (d:Nat):Nat→List CV→St→St
 |_,[],σ=>σ
 |j,c::l,σ=>demL d (j+1) l (if c.isOw then demote d j σ else σ)
theorem Myz {d:Nat}:∀(l:List CV) (j:Nat) (σ:St),(∀i,i<l.length→(AAz σ d (j+i)).isOw=(l.getD i .dead).isOw)→Abz d j l.length σ=demL d j l σ
 |[],j,σ,h=>rfl
 |c::l,j,σ,h=>by
  have h0:=h 0 (by simp)
  simp only[Nat.add_zero,List.getD_cons_zero]at h0
  simp only[List.length_cons,Abz,demL,h0]
  refine Myz l (j+1) _ fun i hi=> ?_
  have h1:=h (i+1) (by simp only[List.length_cons];omega)
  rw[List.getD_cons_succ]at h1
  rw[←h1,show j+1+i=j+(i+1)from by omega]
  split
  ·cases hb:(AAz σ d (j+(i+1))).isOw with
   |false=>exact Bxz _ _ _ _ _ rfl (fun c hc=>by
    cases c with
    |ow=>simp[CV.isOw]at hc
    |br=>simp only[demC];split<;>rfl
    |_=>rfl) hb
   |true=>
    unfold demote
    rw[Bmz _ _ _ _ _ rfl hb]
    cases hc:AAz σ d (j+(i+1))with
    |ow f es rows=>
     simp only[demC]
     rw[if_neg (by omega)];rfl
    |_=>rw[hc]at hb;simp[CV.isOw]at hb
  ·rfl
def BSz (x:SV) (d:Nat) (σ:St):St:=
 match x with
 | .c .box l=>((demL d 0 l σ).map (SV.cut d)).set d .undef
 | .c _ l=>demL d 0 l σ
 |_=>σ
theorem KBz {d:Nat}:clear d σ=BSz (σ.getD d .undef) d σ:=by
 have key:∀sh l,σ.getD d .undef= .c sh l→Abz d 0 l.length σ=demL d 0 l σ:=fun sh l h=>Myz l 0 σ fun i hi=>by
  simp only[AAz,h,Nat.zero_add]
 unfold clear BSz
 generalize hx:σ.getD d .undef=x at key ⊢
 cases x with
 |c sh l=>
  have:=key sh l rfl
  cases sh<;>simp only[this]
 |_=>rfl
@[go_sem ↓] theorem Zzz {d:Nat}:clear d σ=BSz (σ.getD d .undef) d σ:=KBz
@[go_sem] theorem ABsz {d}:BSz skipSV d σ=σ:=rfl
@[go_sem] theorem Z0z {d}:BSz .undef d σ=σ:=rfl
@[go_sem] theorem AHBz {d s o}:BSz (.bp s o) d σ=σ:=rfl
@[go_sem] theorem AHAz {d s o q kd fl es i f row}:BSz (.ep s o q kd fl es i f row) d σ=σ:=rfl
@[go_sem] theorem AG8z {d fl row f}:BSz (.sp fl row f) d σ=σ:=rfl
@[go_sem] theorem AG9z {d g caps}:BSz (.fn g caps) d σ=σ:=rfl
@[go_sem] theorem AFKz {d l}:BSz (.c .box l) d σ=((demL d 0 l σ).map (SV.cut d)).set d .undef:=rfl
@[go_sem] theorem AFJz {d l}:BSz (.c .one l) d σ=demL d 0 l σ:=rfl
@[go_sem] theorem AFLz {d l}:BSz (.c .agg l) d σ=demL d 0 l σ:=rfl
@[go_sem] theorem AFIz {d s l}:BSz (.c (.tup s) l) d σ=demL d 0 l σ:=rfl
@[go_sem] theorem Yjz {a b c d:Nat}:((a,b)==(c,d))=if a=c then(if b=d then true else false)else false:=by
 by_cases h1:a=c<;>by_cases h2:b=d<;>simp[h1,h2]
@[go_sem ↓] theorem X0z {d x:Nat}:BGz d (.assign (.tmp x)) σ=BVz d x (σ.getD x .undef) σ:=rfl
@[go_sem ↓] theorem Wzz {d:Nat} {v:Value}:BGz d (.assign (.const v)) σ=σ:=rfl
@[go_sem ↓] theorem X1z {d:Nat} {f:FuncId}:BGz d (.assign (.func f)) σ=σ:=rfl
@[go_sem] theorem Ytz {d x:Nat}:BVz d x .undef σ=σ:=rfl
@[go_sem] theorem AA9z {d x:Nat}:BVz d x skipSV σ=σ:=rfl
@[go_sem] theorem AGQz {d x s o:Nat}:BVz d x (.bp s o) σ=σ:=rfl
@[go_sem] theorem AGOz {d x s o q kd fl es i f row}:BVz d x (.ep s o q kd fl es i f row) σ=σ:=rfl
@[go_sem] theorem AGKz {d x fl row f}:BVz d x (.sp fl row f) σ=σ:=rfl
@[go_sem] theorem AGNz {d x g caps}:BVz d x (.fn g caps) σ=σ:=rfl
@[go_sem] theorem ADez {d x l}:BVz d x (.c .box l) σ=σ:=rfl
@[go_sem] theorem ADfz {d x l}:BVz d x (.c .agg l) σ=σ:=rfl
@[go_sem] theorem ADdz {d x s l}:BVz d x (.c (.tup s) l) σ=σ:=rfl
@[go_sem] theorem AGLz {d x f p}:BVz d x (.c .one [.sh f p]) σ=σ:=rfl
@[go_sem] theorem AGMz {d x f es rows}:BVz d x (.c .one [.ow f es rows]) σ=σ:=rfl
@[go_sem] theorem ABAz {d x}:BVz d x (.c .one [.dead]) σ=σ:=rfl
@[go_sem] theorem AGPz {d x s o q kd lo f es rows}:BVz d x (.c .one [.br s o q kd lo f es rows]) σ=if kd=1∧o=0∧q=[]∧s=d∧(AAz σ d 0).isOw=true then(off d 0 σ).set x (.c .one [.ow f es rows])else σ:=by
 unfold BVz
 split
 ·rename_i h
  injection h with _ h
  injection h with h _
  injection h with h1 h2 h3 h4 h5 h6 h7 h8
  subst h1;subst h2;subst h3;subst h4;subst h5;subst h6;subst h7;subst h8
  simp
 ·rename_i h
  rw[if_neg]
  rintro⟨rfl,rfl,rfl,_,_⟩
  exact h _ _ _ _ _ rfl
@[go_sem] theorem ZCz {d j}:demL d j [] σ=σ:=rfl
@[go_sem] theorem ABOz {d j f p l}:demL d j (.sh f p::l) σ=demL d (j+1) l σ:=rfl
@[go_sem] theorem ABQz {d j s o q kd lo f es rows l}:demL d j (.br s o q kd lo f es rows::l) σ=demL d (j+1) l σ:=rfl
@[go_sem] theorem YAz {d j l}:demL d j (.dead::l) σ=demL d (j+1) l σ:=rfl
@[go_sem] theorem ABPz {d j f es rows l}:demL d j (.ow f es rows::l) σ=demL d (j+1) l (demote d j σ):=rfl
@[go_sem] theorem Tyz {s j}:Abz s j 0 σ=σ:=rfl
@[go_sem] theorem Tzz {s j n}:Abz s j (n+1) σ=Abz s (j+1) n (if(AAz σ s j).isOw then demote s j σ else σ):=rfl
def Etz (x:SV) (o:Nat):CV:=
 match x with
 | .c _ l=>l.getD o .dead
 |_=> .dead
@[go_sem] theorem XGz {s o}:AAz [] s o= .dead:=rfl
@[go_sem] theorem WLz {x o}:AAz (x::σ) 0 o=Etz x o:=rfl
@[go_sem] theorem WMz {x s o}:AAz (x::σ) (s+1) o=AAz σ s o:=rfl
@[go_sem] theorem Z1z {sh l o}:Etz (.c sh l) o=l.getD o .dead:=rfl
@[go_sem] theorem VWz {o}:Etz .undef o= .dead:=rfl
@[go_sem] theorem WKz {o}:Etz skipSV o= .dead:=rfl
@[go_sem] theorem YHz {s a o}:Etz (.bp s a) o= .dead:=rfl
@[go_sem] theorem YGz {s a q kd fl es i f row o}:Etz (.ep s a q kd fl es i f row) o= .dead:=rfl
@[go_sem] theorem YEz {fl row f o}:Etz (.sp fl row f) o= .dead:=rfl
@[go_sem] theorem YFz {g caps o}:Etz (.fn g caps) o= .dead:=rfl
@[go_sem] theorem AFez {s o q}:atP σ s o q=(AAz σ s o).atQ q:=rfl
@[go_sem] theorem AFdz {f es rows q}:(CV.ow f es rows).atQ q=(getP q (.o es rows)).map fun r=>(f,r):=rfl
@[go_sem] theorem Yuz {es rows}:getP [] (.o es rows)=some (es,rows):=rfl
@[go_sem] theorem X2z {es rows i j q}:getP ((i,j)::q) (.o es rows)=(rows[i]?).bind fun row=>(row[j]?).bind fun p=>getP q p:=rfl
@[go_sem] theorem XMz {q}:strip [] q=some q:=rfl
@[go_sem] theorem WXz {a p b q}:strip (a::p) (b::q)=if a=b then strip p q else none:=rfl
@[go_sem] theorem XNz {a p}:strip (a::p) []=none:=rfl
@[go_sem] theorem BWz {g p}:modP g [] p=g p:=by cases p<;>rfl
@[go_sem] theorem Xcz {g i j q es rows}:modP g ((i,j)::q) (.o es rows)=match rows[i]? with
  |some row=>match row[j]? with
   |some p=> .o es (rows.set i (row.set j (modP g q p)))
   |none=> .o es rows
  |none=> .o es rows:=rfl
@[go_sem] theorem P5z {es0 new es rows}:AHz es0 new (.o es rows)=if es=es0∧rows.length=new.length then .o es new else .un:=rfl
@[go_sem] theorem ADGz {p}:toX p= .un:=rfl
@[go_sem] theorem ADXz {f es rows}:owBy f (.o es rows)= .ow f es rows:=rfl
@[go_sem] theorem AAkz {f}:owBy f .un= .dead:=rfl
@[go_sem] theorem AFaz {s o q f es rows}:brBy s o q f (.o es rows)= .br s o q 0 0 f es rows:=rfl
@[go_sem] theorem AB1z {s o q f}:brBy s o q f .un= .dead:=rfl
@[go_sem] theorem AAvz {s o q g f' k j f p}:modC s o q g f' k j (.sh f p)= .sh f p:=rfl
@[go_sem] theorem Wkz {s o q g f' k j}:modC s o q g f' k j .dead= .dead:=rfl
@[go_sem] theorem Iyz {s o q g f' k j f es rows}:modC s o q g f' k j (.ow f es rows)=if k=s∧j=o then owBy (f||f') (modP g q (.o es rows))else .ow f es rows:=rfl
@[go_sem] theorem AAwz {s o q g f' k j a b q' kd lo f es rows}:modC s o q g f' k j (.br a b q' kd lo f es rows)=modL s o q g f' (.br a b q' kd lo f es rows):=rfl
@[go_sem] theorem AAsz {s o q g f' f p}:modL s o q g f' (.sh f p)= .sh f p:=rfl
@[go_sem] theorem AAtz {s o q g f' f es rows}:modL s o q g f' (.ow f es rows)= .ow f es rows:=rfl
@[go_sem] theorem Xdz {s o q g f'}:modL s o q g f' .dead= .dead:=rfl
@[go_sem] theorem AAuz {s o q g f' a b q' kd lo f es rows}:modL s o q g f' (.br a b q' kd lo f es rows)=if a=s∧b=o then(if kd=0 then(match strip q' q with
   |some r=>brBy a b q' (f||f') (modP g r (.o es rows))
   |none=> .dead)else .dead)else .br a b q' kd lo f es rows:=rfl
@[go_sem] theorem AAqz {s o q s' o' q' k j f p}:mvpC s o q s' o' q' k j (.sh f p)= .sh f p:=rfl
@[go_sem] theorem Wjz {s o q s' o' q' k j}:mvpC s o q s' o' q' k j .dead= .dead:=rfl
@[go_sem] theorem Ymz {s o q s' o' q' k j f es rows}:mvpC s o q s' o' q' k j (.ow f es rows)=if k=s∧j=o then(match q with
   |[]=> .br s' o' q' 0 0 f es rows
   |_::_=>owBy f (modP toX q (.o es rows)))else .ow f es rows:=rfl
@[go_sem] theorem AArz {s o q s' o' q' k j a b p kd lo f es rows}:mvpC s o q s' o' q' k j (.br a b p kd lo f es rows)=mvpL s o q s' o' q' (.br a b p kd lo f es rows):=rfl
@[go_sem] theorem AAnz {s o q s' o' q' f p}:mvpL s o q s' o' q' (.sh f p)= .sh f p:=rfl
@[go_sem] theorem AAoz {s o q s' o' q' f es rows}:mvpL s o q s' o' q' (.ow f es rows)= .ow f es rows:=rfl
@[go_sem] theorem Xbz {s o q s' o' q'}:mvpL s o q s' o' q' .dead= .dead:=rfl
@[go_sem] theorem AApz {s o q s' o' q' a b p kd lo f es rows}:mvpL s o q s' o' q' (.br a b p kd lo f es rows)=if a=s∧b=o then(match strip q p with
   |some r=> .br s' o' (q'++r) kd lo f es rows
   |none=>match strip p q with
    |some r=>if kd=0 then brBy a b p f (modP toX r (.o es rows))else .dead
    |none=> .br a b p kd lo f es rows)else .br a b p kd lo f es rows:=rfl
@[go_sem] theorem Wpz {s s'}:keeps none s s'=false:=rfl
@[go_sem] theorem Woz {N s s'}:keeps (some N) s s'=(decide (N≤s)&&decide (s'<N)):=rfl
@[go_sem] theorem AA1z {T:Tys} {N}:kpOf T N=if T.mo then some N else none:=rfl
@[go_sem] theorem Xnz {f p}:DSz σ (.sh f p)=true:=rfl
@[go_sem] theorem Xoz {f es rows}:DSz σ (.ow f es rows)=true:=rfl
@[go_sem] theorem Xpz {s o q kd lo f es rows}:DSz σ (.br s o q kd lo f es rows)=(AAz σ s o).isOw:=rfl
@[go_sem] theorem Xkz {mo inl N d j f p}:ELz mo inl N d j (.sh f p) σ=(persist none d j (.sh f p) σ).map fun r=>(r.1,id,r.2):=rfl
@[go_sem] theorem Xlz {mo inl N d j f es rows}:ELz mo inl N d j (.ow f es rows) σ=(persist none d j (.ow f es rows) σ).map fun r=>(r.1,id,r.2):=rfl
@[go_sem] theorem Vsz {mo inl N d j}:ELz mo inl N d j .dead σ=none:=rfl
@[go_sem] theorem Xmz {mo inl N d j s o q kd lo f es rows}:ELz mo inl N d j (.br s o q kd lo f es rows) σ=
  if(inl&&decide (N≤s))=true then(if(AAz σ s o).isOw then some (σ,id,.br s o q kd lo f es rows)else none)
  else match q with
   |[]=>(persist none d j (weaken N (.br s o [] kd lo f es rows)) σ).map fun r=>(r.1,id,r.2)
   |a::q=>if(AAz σ s o).isOw then
     (if(mo&&kd==0)=true then some (mvp s o (a::q) d j [] σ,mvpL s o (a::q) d j [],.ow f es rows)else some (demote s o σ,id,.sh f (.s es (Agz rows))))else none:=rfl
@[go_sem] theorem WBz {f p}:D3z (.sh f p)=p.flat:=rfl
@[go_sem] theorem WCz {f es rows}:D3z (.ow f es rows)=false:=rfl
@[go_sem] theorem WDz {s o q kd lo f es rows}:D3z (.br s o q kd lo f es rows)=false:=rfl
@[go_sem] theorem UTz:D3z .dead=false:=rfl
@[go_sem] theorem AE5z {k n}:(PV.i k n).flat=true:=rfl
@[go_sem] theorem AE6z {x}:(PV.b x).flat=true:=rfl
@[go_sem] theorem AE2z {s}:(PV.t s).flat=true:=rfl
@[go_sem] theorem AE3z {es rows}:(PV.s es rows).flat=true:=rfl
@[go_sem] theorem AE4z {es rows}:(PV.o es rows).flat=false:=rfl
@[go_sem] theorem ABBz:PV.un.flat=false:=rfl
@[go_sem] theorem zo_i {k n}:(PV.i k n).zo= .i k n:=rfl
@[go_sem] theorem zo_b {x}:(PV.b x).zo= .b x:=rfl
@[go_sem] theorem zo_t {s}:(PV.t s).zo= .t s:=rfl
@[go_sem] theorem zo_s {es}:(PV.s es []).zo= .o es []:=rfl
@[go_sem] theorem AFPz {s o q fl i j k n}:(PV.i k n).cell s o q fl i j= .sh false (.i k n):=rfl
@[go_sem] theorem AFQz {s o q fl i j x}:(PV.b x).cell s o q fl i j= .sh false (.b x):=rfl
@[go_sem] theorem AFMz {s o q fl i j x}:(PV.t x).cell s o q fl i j= .sh false (.t x):=rfl
@[go_sem] theorem AFNz {s o q fl i j es rows}:(PV.s es rows).cell s o q fl i j= .sh fl (.s es rows):=by cases fl<;>rfl
@[go_sem] theorem AFOz {s o q fl i j es rows}:(PV.o es rows).cell s o q fl i j= .br s o (q++[(i,j)]) 0 0 fl es rows:=rfl
@[go_sem] theorem ABtz {s o q fl i j}:PV.un.cell s o q fl i j= .dead:=rfl
@[go_sem] theorem ABxz {fl k n}:(PV.i k n).cellS fl= .sh false (.i k n):=rfl
@[go_sem] theorem AByz {fl x}:(PV.b x).cellS fl= .sh false (.b x):=rfl
@[go_sem] theorem ABuz {fl x}:(PV.t x).cellS fl= .sh false (.t x):=rfl
@[go_sem] theorem ABvz {fl es rows}:(PV.s es rows).cellS fl= .sh fl (.s es rows):=by cases fl<;>rfl
@[go_sem] theorem ABwz {fl es rows}:(PV.o es rows).cellS fl= .dead:=rfl
@[go_sem] theorem Usz {s o q fl i j}:CQz s o q fl i j []=[]:=rfl
@[go_sem] theorem T6z {s o q fl i j p l}:CQz s o q fl i j (p::l)=p.cell s o q fl i j::CQz s o q fl i (j+1) l:=rfl
@[go_sem] theorem er_i {k n}:(PV.i k n).er= .i k n:=rfl
@[go_sem] theorem er_b {x}:(PV.b x).er= .b x:=rfl
@[go_sem] theorem er_t {s}:(PV.t s).er= .t s:=rfl
@[go_sem] theorem er_s {es rows}:(PV.s es rows).er= .s es rows:=rfl
@[go_sem] theorem er_o {es rows}:(PV.o es rows).er= .s es (Agz rows):=rfl
@[go_sem] theorem W4z:Clz []=[]:=rfl
@[go_sem] theorem WHz {p l}:Clz (p::l)=p.er::Clz l:=rfl
@[go_sem] theorem WFz:Agz []=[]:=rfl
@[go_sem] theorem Mrz {r l}:Agz (r::l)=Clz r::Agz l:=rfl
theorem Eqz:∀{l:List (List PV)},Agz l=l.map Clz
 |[]=>rfl
 |r::l=>by rw[Mrz,Eqz];rfl
@[go_sem] theorem W3z {l:List (List PV)}:(Agz l).length=l.length:=A4z l
@[go_sem] theorem UUz {a b:List (List PV)}:Agz (a++b)=Agz a++Agz b:=by simp[Eqz]
@[go_sem] theorem W0z {a:List (List PV)} {n:Nat} {r:List PV}:Agz (a.set n r)=(Agz a).set n (Clz r):=by simp[Eqz]
@[go_sem] theorem W1z {n:Nat} {r:List PV}:Agz (List.replicate n r)=List.replicate n (Clz r):=by simp[Eqz]
theorem HDz {α:Type} {l:List α} {f:α→List PV}:Agz (l.map f)=l.map fun x=>Clz (f x):=by simp[Eqz]
class FlatF {α:Type} (f:α→List PV):Prop where
 er:∀x,Clz (f x)=f x
 flat:∀x,CNz (f x)=true
theorem FlatF.mk' {α:Type} {f:α→List PV} (h:∀x,CNz (f x)=true):FlatF f:=⟨fun x=>J1z (h x),h⟩
@[go_sem] theorem WGz {α:Type} {l:List α} {f:α→List PV} [FlatF f]:Agz (l.map f)=l.map f:=by
 rw[HDz];simp only[FlatF.er]
@[go_sem] theorem WEz {s:ByteArray}:Agz (Bsz s)=Bsz s:=by
 unfold Bsz;rw[HDz];rfl
@[go_sem] theorem WAz:CNz []=true:=rfl
@[go_sem] theorem VRz {p l}:CNz (p::l)=(p.flat&&CNz l):=rfl
@[go_sem] theorem VQz:A3z []=true:=rfl
@[go_sem] theorem UQz {r l}:A3z (r::l)=(CNz r&&A3z l):=rfl
@[go_sem] theorem S3z {a b:List (List PV)}:A3z (a++b)=(A3z a&&A3z b):=by simp[A3z]
theorem Hzz {α:Type} {l:List α} {f:α→List PV} (h:∀x,CNz (f x)=true):A3z (l.map f)=true:=by
 simp[A3z,h]
@[go_sem] theorem UPz {α:Type} {l:List α} {f:α→List PV} [h:FlatF f]:A3z (l.map f)=true:=Hzz h.flat
@[go_sem] theorem UOz {s:ByteArray}:A3z (Bsz s)=true:=by
 unfold Bsz;exact Hzz fun x=>rfl
@[go_sem] theorem VPz {a:List (List PV)} {n:Nat} {r:List PV} (h:A3z a=true) (h2:CNz r=true):A3z (a.set n r)=true:=by
 simp only[A3z,List.all_eq_true]at h ⊢
 intro x hx
 rcases List.mem_or_eq_of_mem_set hx with hx|rfl
 ·exact h x hx
 ·exact h2
class ScalF {α:Type} (f:α→List PV):Prop where
 sc:∀x,(f x).all PV.scalar=true
@[go_sem] theorem XXz:B2z []=true:=rfl
@[go_sem] theorem Whz {r l}:B2z (r::l)=(r.all PV.scalar&&B2z l):=rfl
@[go_sem] theorem Hmz {α:Type} {l:List α} {f:α→List PV} [h:ScalF f]:B2z (l.map f)=true:=by simp[B2z,h.sc]
@[go_sem] theorem Wfz {s:ByteArray}:B2z (Bsz s)=true:=by
 unfold B2z Bsz;rw[List.all_map];exact List.all_eq_true.2 fun x _=>rfl
attribute [go_sem] Epz
@[go_sem] theorem AAPz {α:Type} {l:List α} {i:Nat} {a:α}:(l.set i a)[i]? =(l[i]?).map fun _=>a:=by
 rw[List.getElem?_set_self'];rfl
attribute [go_sem] List.set_set implies_true or_false or_true false_or true_or
@[go_sem] theorem AAjz {a b c d:Nat}:((a,b)=(c,d))=(a=c∧b=d):=by simp
@[go_sem] theorem Zyz {α:Type} {a:α} {l:List α}:(a::l=[])=False:=by simp
@[go_sem] theorem ABFz {E:Env} {f c}:(E.run f c).T.sl=E.T.sl:=rfl
@[go_sem] theorem ABDz {E:Env} {f c}:(E.run f c).T.sz=E.T.sz:=rfl
@[go_sem] theorem Yxz {E:Env} {f c}:(E.run f c).T.byt=E.T.byt:=rfl
@[go_sem] theorem ABLz {E:Env} {f c}:(E.run f c).T.ag=E.T.ag:=rfl
@[go_sem] theorem ABCz {E:Env} {f c}:(E.run f c).T.zr=E.T.zr:=rfl
@[go_sem] theorem ABJz {E:Env} {f c}:(E.run f c).T.fo=E.T.fo:=rfl
@[go_sem] theorem ABIz {E:Env} {f c}:(E.run f c).T.fz=E.T.fz:=rfl
@[go_sem] theorem ABHz {E:Env} {f c}:(E.run f c).T.ik=E.T.ik:=rfl
@[go_sem] theorem Yvz {E:Env} {f c}:(E.run f c).T.str=E.T.str:=rfl
@[go_sem] theorem Yyz {E:Env} {f c}:(E.run f c).T.boo=E.T.boo:=rfl
@[go_sem] theorem Ywz {E:Env} {f c}:(E.run f c).T.eqs=E.T.eqs:=rfl
@[go_sem] theorem ABGz {E:Env} {f c}:(E.run f c).T.mo=E.mv f:=rfl
@[go_sem] theorem ABKz {E:Env} {f c}:(E.run f c).T.al=E.al f:=rfl
@[go_sem] theorem ABEz {E:Env} {f c g}:(E.run f c).T.so g=if E.inl g=true then some (c g)else E.T.so g:=rfl
@[go_sem] theorem AE7z {E:Env} {f c}:(E.run f c).D=E.dead f:=rfl
@[go_sem] theorem AA6z {f p}:(CV.sh f p).isOw=false:=rfl
@[go_sem] theorem AA7z {f es rows}:(CV.ow f es rows).isOw=true:=rfl
@[go_sem] theorem AA8z {s o q kd lo f es rows}:(CV.br s o q kd lo f es rows).isOw=false:=rfl
@[go_sem] theorem Xtz:CV.dead.isOw=false:=rfl
attribute [go_sem] HRz demote move off turn modS mvp Aez demC mvC offC Azz epTo persist AUz nest Ccz Aiz PV.cv PV.scalar IGz blanks Tgt.next JMz offO id_eq DRz
@[go_sem] theorem Wmz {g e}:SV.undef.mapC g e= .undef:=rfl
@[go_sem] theorem ADYz {g e sh l}:(SV.c sh l).mapC g e= .c sh (Acz g 0 l):=rfl
@[go_sem] theorem AA0z {g e s o}:(SV.bp s o).mapC g e= .bp s o:=rfl
@[go_sem] theorem AAxz {g e fl row f}:(SV.sp fl row f).mapC g e= .sp fl row f:=rfl
@[go_sem] theorem AAyz {g e i caps}:(SV.fn i caps).mapC g e= .fn i caps:=rfl
@[go_sem] theorem AAzz {g e s o q kd fl es i f row}:(SV.ep s o q kd fl es i f row).mapC g e=match e s o q with
  |some (s',o',q')=> .ep s' o' q' kd fl es i f row
  |none=> .undef:=rfl
attribute [go_sem] FHz cells? comp Lhz lay layP part CV.isDead Lfz Dhz Ajz CIz noBr CV.flag CV.reflag SV.cells SV.reflag back CBz Dvz
attribute [go_sem] EAz FAz EXz Fgz ESz bound DVz Aqz Gmz DYz Jiz D9z min2 max2 Ffz Ehz tidy finish BDz Dzz JSz A9z weaken settles settle Fjz KGz Bkz BJz start BYz BNz FIz Bgz Euz Caz
attribute [go_sem] List.getD_cons_zero List.getD_cons_succ List.getD_nil List.set_cons_zero List.set_cons_succ List.map_cons List.map_nil List.length_cons List.length_nil List.nil_append List.cons_append List.append_nil List.replicate_succ List.replicate_zero List.flatMap_cons List.flatMap_nil
attribute [go_sem] List.all_cons List.all_nil List.any_cons List.any_nil List.isEmpty_nil List.isEmpty_cons List.take_zero List.take_succ_cons List.drop_zero List.drop_succ_cons List.take_nil List.drop_nil List.contains_nil List.contains_cons List.range_zero
attribute [go_sem] Option.map_some Option.map_none Option.bind_some Option.bind_none Option.isSome_some Option.isSome_none Option.getD_some Option.getD_none
attribute [go_sem] Bool.or_false Bool.or_true Bool.false_or Bool.true_or Bool.and_false Bool.and_true Bool.false_and Bool.true_and Bool.not_true Bool.not_false Bool.not_not decide_eq_true_eq decide_eq_false_iff_not Bool.false_eq_true Bool.true_eq_false
attribute [go_sem] true_and and_true false_and and_false not_true_eq_false not_false_eq_true Mwz Q5z PWz List.toArray List.toList_toArray
attribute [go_sem] if_true if_false reduceIte ite_true ite_false eq_self ne_eq
theorem getElem?_arr {α:Type} {l:List α} {i:Nat}:(l.toArray)[i]? =l[i]? :=by simp
attribute [go_sem] getElem?_arr List.getElem?_cons_zero List.getElem?_cons_succ List.getElem?_nil
section
variable {t:TypeId}
def Frz (E:Env) (call:CallF) (N:Nat) (ty:TypeId) (d:Nat) (σ:St) (g:FuncId) (xs:List Operand):Option (St×SV):=
  if ((xs.map (opd E.T N ty σ)).flatMap Ajz).isEmpty then (AZz 0 (xs.map (opd E.T N ty σ))).bind fun q => (call g q.1 []).bind fun r => Ddz σ q r
      else Bgz E call N ty d σ (.func g) xs
@[go_sem] theorem Waz {α β:Type} {h:α} {a:α→β} {b:β}:E4z (some h) a b=a h:=rfl
@[go_sem] theorem Wbz {α β:Type} {a:α→β} {b:β}:E4z none a b=b:=rfl
@[go_sem ↓] theorem XHz {E:Env} {call:CallF} {d:Nat} {g:FuncId} {xs:List Operand}:Gfz E call N ty d σ (.func g) xs=E4z (E.T.so g) (fun h=>h d σ (xs.map (opd E.T N ty σ))) (Frz E call N ty d σ g xs):=rfl
@[go_sem ↓] theorem Vnz {E:Env} {call:CallF} {d:Nat} {g:FuncId} {xs:List Operand} {K:Kont (St×SV)}: @Wq _ (Frz E call N ty d σ g xs) K= @Wq _ (some (xs.map (opd E.T N ty σ))) ⟨fun vs=> @Bq ((vs.flatMap Ajz).isEmpty=true)
  ⟨@Wq _ (AZz 0 vs) ⟨fun q=> @Wq _ (call g q.1 []) ⟨fun r=> @Wq _ (Ddz σ q r) K⟩⟩⟩ ⟨@Wq _ (Bgz E call N ty d σ (.func g) xs) K⟩⟩:=by
 show Wp (Frz E call N ty d σ g xs) K.run=Wp (some (xs.map (opd E.T N ty σ))) fun vs=>Br ((vs.flatMap Ajz).isEmpty=true) (Wp (AZz 0 vs) fun q=>Wp (call g q.1 []) fun r=>Wp (Ddz σ q r) K.run) (Wp (Bgz E call N ty d σ (.func g) xs) K.run)
 rw[Ahz]
 simp only[Frz,DAz,CMz]
@[go_sem ↓] theorem AAQz {q:List SV×List (Nat×Nat)×Bool} {r:Ret} {K:Kont (St×SV)}: @Wq _ (Ddz σ q r) K= @Bq (r.boxes.length=0∧CIz r.res=true∧r.res.cells.all noBr=true) ⟨@Wq _ (some (r.res.cells.any CV.flag)) ⟨fun fl=> @Bq (fl=true) ⟨@Wq _ (some (back [] q.2.1 true σ,r.res.reflag q.2.2)) K⟩ ⟨@Wq _ (some (σ,r.res.reflag q.2.2)) K⟩⟩⟩ ⟨False⟩:=by
 show Wp (Ddz σ q r) K.run=Br (r.boxes.length=0∧CIz r.res=true∧r.res.cells.all noBr=true) (Wp (some (r.res.cells.any CV.flag)) fun fl=>Br (fl=true) (Wp (some (back [] q.2.1 true σ,r.res.reflag q.2.2)) K.run) (Wp (some (σ,r.res.reflag q.2.2)) K.run)) False
 simp only[Ddz,DAz,DDz,Ahz]
 cases r.res.cells.any CV.flag<;>simp[CXz,HHz]
@[go_sem] theorem U7z {k}:AZz k []=some ([],[],false):=rfl
@[go_sem] theorem U6z {k cs l}:AZz k (.c .one cs::l)=(Dhz cs).bind fun r=>(AZz k l).map fun q=>(.c .one r.1::q.1,r.2.1++q.2.1,r.2.2||q.2.2):=rfl
@[go_sem] theorem U8z {k cs l}:AZz k (.c .agg cs::l)=(Dhz cs).bind fun r=>(AZz k l).map fun q=>(.c .agg r.1::q.1,r.2.1++q.2.1,r.2.2||q.2.2):=rfl
@[go_sem] theorem Vrz {k s l}:AZz k (.bp s 0::l)=(AZz (k+1) l).map fun q=>(.bp k 0::q.1,q.2):=rfl
@[go_sem] theorem Vqz {k g caps l}:AZz k (.fn g caps::l)=(AZz (k+caps.length) l).map fun q=>(.fn g (List.range' k caps.length)::q.1,q.2):=rfl
def mkSV (a:Bool) (l:List CV):SV:= .c (if a then .agg else .one) l
@[go_sem] theorem Xez {l}:mkSV true l= .c .agg l:=rfl
@[go_sem] theorem Wlz {l}:mkSV false l= .c .one l:=rfl
def KXz (a:Bool) (n o s:Nat) (x:SV):Option SV:=
 match x with
 | .c .box l=>(part n o (Acz (CV.view s) 0 l)).bind fun l=>if a|| !(l.any CV.isDead)then some (mkSV a l)else none
 |_=>none
@[go_sem] theorem Vpz {a n o s l}:KXz a n o s (.c .box l)=(part n o (Acz (CV.view s) 0 l)).bind fun l=>if a|| !(l.any CV.isDead)then some (mkSV a l)else none:=rfl
def loadAt (a:Bool) (n:Nat) (σ:St) (x:SV):Option SV:=
 match x with
 | .bp s o=>KXz a n o s (σ.getD s .undef)
 | .ep s o q kd fl es i f row=>if f+n≤row.length then
   (if a|| !((CQz s o q fl i f ((row.drop f).take n)).any CV.isDead)then some (mkSV a (CQz s o q fl i f ((row.drop f).take n)))else none)else none
 | .sp fl row f=>if f+n≤row.length then
   (if a|| !((((row.drop f).take n).map (PV.cellS fl)).any CV.isDead)then some (mkSV a (((row.drop f).take n).map (PV.cellS fl)))else none)else none
 |_=>none
@[go_sem] theorem Xiz {a n s o}:loadAt a n σ (.bp s o)=KXz a n o s (σ.getD s .undef):=rfl
@[go_sem] theorem Xhz {a n s o q kd fl es i f row}:loadAt a n σ (.ep s o q kd fl es i f row)=if f+n≤row.length then
   (if a|| !((CQz s o q fl i f ((row.drop f).take n)).any CV.isDead)then some (mkSV a (CQz s o q fl i f ((row.drop f).take n)))else none)else none:=rfl
@[go_sem] theorem Xgz {a n fl row f}:loadAt a n σ (.sp fl row f)=if f+n≤row.length then
   (if a|| !((((row.drop f).take n).map (PV.cellS fl)).any CV.isDead)then some (mkSV a (((row.drop f).take n).map (PV.cellS fl)))else none)else none:=rfl
@[go_sem ↓] theorem ADaz {x:SV}:Cpz T σ t x=(T.sz t).bind fun n=>(T.ag t).bind fun a=>if a=false∧n≠1 then none else loadAt a n σ x:=by
 unfold Cpz;congr 1
end
end
end Go.Proofs.YtblelojdboefjaaGreatDoor.R
namespace Go.Proofs.YtblelojdboefjaaGreatDoor.R
open Go
def Chk [a:Later]:Prop:=a.it
theorem chk {T:Tys} {ops:Array Oper} {P:Prop} (h:Csz T ops=true) (h2:P): @Chk ⟨Csz T ops=true⟩∧P:=⟨h,h2⟩
def FUz (E:Env) (call:CallF) (N:Nat) (ops:Array Oper) (o:Oper) (w:Bool) (σ:St):Option St:=
 match o.dst with
 |none=>none
 |some d=>if d<N∧plain (σ.getD d .undef)=true then
   (if w then(Aoz E call N o σ).map (drawn E.T ops.toList d)else some skipSV).bind fun v=>if(CVz v&& !Adz o.op)=true then none else some (σ.set d v)
  else none
def CTz (E:Env) (call:CallF) (N:Nat) (ops:Array Oper):List Oper→St→Option St
 |[],σ=>some σ
 |o::r,σ=>if A1z E.T ops.toList o r then runL E call N ops (o::r) σ else(Avz N ops o σ).bind fun w=>(FUz E call N ops o w σ).bind fun σ=>CTz E call N ops r σ
def Fnz (E:Env) (call:CallF) (N:Nat) (ops:Array Oper) (o:Oper) (r:List Oper) (σ:St):Option St:=
 (Avz N ops o σ).bind fun w=>(FUz E call N ops o w σ).bind fun σ=>CTz E call N ops r σ
section
variable {E:Env} {call:CallF} {N n:Nat} {σ:St} {K:Kont (Ex×St)} {L:Kont St} {d:Tmp} {ty:TypeId} {ps:String} {af:Array Edge} {gd:Option (Nat×Bool)}
theorem HLz {ops:Array Oper}:∀(r:List Oper) (k:Nat) (σ:St),ops.toList.drop k=r→((Dcz E call N ops (List.range' k (Asz E.T ops.toList r)) σ).bind fun σ=>A5z E call N ops (List.range' (k+Asz E.T ops.toList r) (r.length - Asz E.T ops.toList r)) σ)=CTz E call N ops r σ
 |[],k,σ,h=>by simp[Dcz,CTz,Asz,A5z]
 |o::r,k,σ,h=>by
  have hk:ops.toList[k]? =some o:=by
   have:=congrArg (fun l=>l[0]?) h
   simpa[List.getElem?_drop]using this
  have hd:ops.toList.drop (k+1)=r:=by
   have:=congrArg List.tail h
   simpa[List.tail_drop]using this
  simp only[Asz,CTz]
  by_cases ht:A1z E.T ops.toList o r=true
  ·simp only[ht,if_true,List.range'_zero,Dcz,Option.bind_some,Nat.add_zero,Nat.sub_zero]
   exact GIz (o::r) k σ h
  ·have hr:=fun σ=>HLz r (k+1) σ hd
   have e1:k+(Asz E.T ops.toList r+1)=k+1+Asz E.T ops.toList r:=by omega
   have e2:(o::r).length - (Asz E.T ops.toList r+1)=r.length - Asz E.T ops.toList r:=by simp
   simp only[ht,Bool.false_eq_true,if_false,e1,e2,List.range'_succ,Dcz]
   rw[show ops[k]? =some o by simpa using hk]
   simp only[Option.bind_assoc]
   congr 1;funext w
   unfold FUz
   cases o.dst with
   |none=>rfl
   |some d=>
    simp only
    split
    ·cases (if w=true then(Aoz E call N o σ).map (drawn E.T ops.toList d)else some skipSV)with
     |none=>rfl
     |some v=>
      simp only[Option.bind_some]
      split
      ·rfl
      ·simp only[Option.bind_some];exact hr _
    ·rfl
theorem TUz {id:Nat} {ops:Array Oper} (hal:E.T.al=false): @Wq _ (AEz E call N n (.region id ops true) σ) K=(@Chk ⟨Csz E.T ops=true⟩∧ @Wq _ (CTz E call N ops ops.toList σ) ⟨fun σ=>K.run (.normal,σ)⟩):=by
 show Wp (AEz E call N n (.region id ops true) σ) K.run=(Csz E.T ops=true∧Wp (CTz E call N ops ops.toList σ) fun σ=>K.run (.normal,σ))
 simp only[AEz,if_true,hal,Bool.false_eq_true,if_false]
 have:=HLz (E:=E) (call:=call) (N:=N) ops.toList 0 σ rfl
 rw[Nat.zero_add]at this
 rw[List.range_eq_range',←this,Array.length_toList]
 by_cases h:Csz E.T ops=true
 ·simp[h,Brz]
 ·simp[h]
theorem U0z {id:Nat} {ops:Array Oper} (hal:E.T.al=true): @Wq _ (AEz E call N n (.region id ops true) σ) K= @Wq _ (GSz E call N ops σ) ⟨fun σ=>K.run (.normal,σ)⟩:=by
 show Wp (AEz E call N n (.region id ops true) σ) K.run=Wp (GSz E call N ops σ) fun σ=>K.run (.normal,σ)
 simp only[AEz,if_true,hal,Brz]
@[go_sem ↓] theorem AAcz {id:Nat} {ops:Array Oper}: @Wq _ (AEz E call N n (.region id ops true) σ) K= @Bq (E.T.al=true) ⟨@Wq _ (GSz E call N ops σ) ⟨fun σ=>K.run (.normal,σ)⟩⟩ ⟨@Chk ⟨Csz E.T ops=true⟩∧ @Wq _ (CTz E call N ops ops.toList σ) ⟨fun σ=>K.run (.normal,σ)⟩⟩:=by
 show _=Br (E.T.al=true) _ _
 by_cases h:E.T.al=true
 ·rw[U0z h]
  simp[h]
 ·rw[TUz (by simpa using h)]
  simp[h]
@[go_sem] theorem Viz {ops:Array Oper} {s:St}: @Wq _ (FKz E call N ops [] s σ) L= @Wq _ (some s) L:=rfl
@[go_sem] theorem WOz {ops:Array Oper}: @Wq _ (A5z E call N ops [] σ) L= @Wq _ (some σ) L:=rfl
@[go_sem ↓] theorem AASz {ops:Array Oper}: @Wq _ (CTz E call N ops [] σ) L= @Wq _ (some σ) L:=rfl
@[go_sem ↓] theorem YXz {ops:Array Oper} {dd:Option Tmp} {op:Op} {gg:Option (Nat×Bool)} {r:List Oper}:
  @Wq _ (CTz E call N ops (⟨dd,op,ty,ps,af,gg⟩::r) σ) L= @Bq (A1z E.T ops.toList ⟨dd,op,ty,ps,af,gg⟩ r=true) ⟨@Wq _ (runL E call N ops (⟨dd,op,ty,ps,af,gg⟩::r) σ) L⟩ ⟨@Wq _ (Fnz E call N ops ⟨dd,op,ty,ps,af,gg⟩ r σ) L⟩:=by
 show Wp (CTz E call N ops (⟨dd,op,ty,ps,af,gg⟩::r) σ) L.run=Br (A1z E.T ops.toList ⟨dd,op,ty,ps,af,gg⟩ r=true) (Wp (runL E call N ops (⟨dd,op,ty,ps,af,gg⟩::r) σ) L.run) (Wp (Fnz E call N ops ⟨dd,op,ty,ps,af,gg⟩ r σ) L.run)
 simp only[CTz,DAz]
 rfl
@[go_sem ↓] theorem AATz {ops:Array Oper} {op:Op} {r:List Oper}:
  @Wq _ (Fnz E call N ops ⟨some d,op,ty,ps,af,none⟩ r σ) L= @Wq _ (some σ) ⟨fun σ=> @Bq (d<N∧plain (σ.getD d .undef)=true) ⟨@Wq _ (Aoz E call N ⟨some d,op,ty,ps,af,none⟩ σ) ⟨fun v=> @Wq _ (some (drawn E.T ops.toList d v)) ⟨fun v=> @Bq ((CVz v&& !Adz op)=true) ⟨False⟩ ⟨@Wq _ (some (σ.set d v)) ⟨fun σ=> @Wq _ (CTz E call N ops r σ) L⟩⟩⟩⟩⟩ ⟨False⟩⟩:=by
 show Wp (Fnz E call N ops ⟨some d,op,ty,ps,af,none⟩ r σ) L.run=Wp (some σ) fun σ=>Br (d<N∧plain (σ.getD d .undef)=true) (Wp (Aoz E call N ⟨some d,op,ty,ps,af,none⟩ σ) fun v=>Wp (some (drawn E.T ops.toList d v)) fun v=>Br ((CVz v&& !Adz op)=true) False (Wp (some (σ.set d v)) fun σ=>Wp (CTz E call N ops r σ) L.run)) False
 simp only[Fnz,Avz,Option.bind_some,CMz,Brz,FUz,DAz,Ahz,if_true,DDz]
@[go_sem ↓] theorem T7z {ops:Array Oper} {j:Nat} {want:Bool} {op:Op} {r:List Oper}:
  @Wq _ (Fnz E call N ops ⟨some d,op,ty,ps,af,some (j,want)⟩ r σ) L= @Wq _ (some σ) ⟨fun σ=> @Wq _ ((ops[j]?).bind (·.dst)) ⟨fun t=> @Bq (t<N∧d<N∧plain (σ.getD d .undef)=true) ⟨@Wq _ (gval (σ.getD t .undef)) ⟨fun b=>
   @Bq (b=some want) ⟨@Wq _ (Aoz E call N ⟨some d,op,ty,ps,af,some (j,want)⟩ σ) ⟨fun v=> @Wq _ (some (drawn E.T ops.toList d v)) ⟨fun v=> @Bq ((CVz v&& !Adz op)=true) ⟨False⟩ ⟨@Wq _ (some (σ.set d v)) ⟨fun σ=> @Wq _ (CTz E call N ops r σ) L⟩⟩⟩⟩⟩ ⟨@Wq _ (some (σ.set d skipSV)) ⟨fun σ=> @Wq _ (CTz E call N ops r σ) L⟩⟩⟩⟩ ⟨False⟩⟩⟩:=by
 show Wp (Fnz E call N ops ⟨some d,op,ty,ps,af,some (j,want)⟩ r σ) L.run=Wp (some σ) fun σ=>Wp ((ops[j]?).bind (·.dst)) fun t=>Br (t<N∧d<N∧plain (σ.getD d .undef)=true) (Wp (gval (σ.getD t .undef)) fun b=>
   Br (b=some want) (Wp (Aoz E call N ⟨some d,op,ty,ps,af,some (j,want)⟩ σ) fun v=>Wp (some (drawn E.T ops.toList d v)) fun v=>Br ((CVz v&& !Adz op)=true) False (Wp (some (σ.set d v)) fun σ=>Wp (CTz E call N ops r σ) L.run)) (Wp (some (σ.set d skipSV)) fun σ=>Wp (CTz E call N ops r σ) L.run)) False
 simp only[Fnz,Avz,CMz,Ahz,FUz]
 generalize Aoz E call N ⟨some d,op,ty,ps,af,some (j,want)⟩ σ=po
 cases ops[j]? with
 |none=>simp
 |some o=>
  simp only[Ahz]
  cases o.dst with
  |none=>simp
  |some t=>
   simp only[Ahz]
   by_cases ht:t<N
   ·by_cases hd:d<N∧plain (σ.getD d .undef)=true
    ·have hb:(CVz skipSV&& !Adz op)=false:=rfl
     simp only[ht,hd.1,hd.2,and_self,if_true,Brz,CMz,DAz,Ahz,DDz,CXz,hb,Bool.false_eq_true,if_false]
     congr 1;funext b
     by_cases hw:b=some want
     ·simp[hw]
     ·simp[hw,hb]
    ·have:(t<N∧d<N∧plain (σ.getD d .undef)=true)=False:=by simp only[eq_iff_iff,iff_false];exact fun h=>hd h.2
     rw[this,HHz]
     simp only[ht,hd,if_true,if_false,DDz,Brz]
     simp[Wp]
   ·simp[ht,Wp,Br]
@[go_sem ↓] theorem XBz {t}:Aoz E call N ⟨some d,.alloc t,ty,ps,af,gd⟩ σ=(E.T.zr t).map fun z=> .c .box (z.map (PV.cv false)):=rfl
@[go_sem] theorem Xwz {l}:CVz (.c .box l)=true:=rfl
@[go_sem] theorem Vvz {x} {T:Tys} {os:List Oper} {dd:Option Tmp} {r:List Oper}:A1z T os ⟨dd,(.move x),ty,ps,af,gd⟩ r=false:=rfl
@[go_sem] theorem VMz {x} {dd:Option Tmp} {r:List Oper}:Axz (⟨dd,(.move x),ty,ps,af,gd⟩::r)=false:=rfl
@[go_sem] theorem VIz {x}:Adz (.move x)=false:=rfl
@[go_sem ↓] theorem X7z {x}:Aoz E call N ⟨some d,.move x,ty,ps,af,gd⟩ σ=AMz E call N ⟨some d,.move x,ty,ps,af,gd⟩ σ:=rfl
@[go_sem] theorem UBz {x} {T:Tys} {os:List Oper} {dd:Option Tmp} {r:List Oper}:A1z T os ⟨dd,(.assign x),ty,ps,af,gd⟩ r=((r.isEmpty|| !FSz T ty&&r.all PFz)&&decide (os.length≤af.size+1+r.length)):=rfl
@[go_sem] theorem AAOz {α:Type} {l:List α}:Array.size ⟨l⟩=l.length:=rfl
@[go_sem] theorem Tnz {x} {dd:Option Tmp} {r:List Oper}:Axz (⟨dd,(.assign x),ty,ps,af,gd⟩::r)=false:=rfl
@[go_sem] theorem Tjz {x}:Adz (.assign x)=false:=rfl
@[go_sem ↓] theorem WJz {x}:Aoz E call N ⟨some d,.assign x,ty,ps,af,gd⟩ σ=AMz E call N ⟨some d,.assign x,ty,ps,af,gd⟩ σ:=rfl
@[go_sem] theorem Vuz {c a b} {T:Tys} {os:List Oper} {dd:Option Tmp} {r:List Oper}:A1z T os ⟨dd,(.pick c a b),ty,ps,af,gd⟩ r=false:=rfl
@[go_sem] theorem VLz {c a b} {dd:Option Tmp} {r:List Oper}:Axz (⟨dd,(.pick c a b),ty,ps,af,gd⟩::r)=false:=rfl
@[go_sem] theorem VHz {c a b}:Adz (.pick c a b)=false:=rfl
@[go_sem ↓] theorem X6z {c a b}:Aoz E call N ⟨some d,.pick c a b,ty,ps,af,gd⟩ σ=AMz E call N ⟨some d,.pick c a b,ty,ps,af,gd⟩ σ:=rfl
@[go_sem] theorem Wvz {op t x y u} {T:Tys} {os:List Oper} {dd:Option Tmp} {r:List Oper}:A1z T os ⟨dd,(.binOp op t x y u),ty,ps,af,gd⟩ r=false:=rfl
@[go_sem] theorem V9z {op t x y u} {dd:Option Tmp} {r:List Oper}:Axz (⟨dd,(.binOp op t x y u),ty,ps,af,gd⟩::r)=false:=rfl
@[go_sem] theorem V3z {op t x y u}:Adz (.binOp op t x y u)=false:=rfl
@[go_sem ↓] theorem ZBz {op t x y u}:Aoz E call N ⟨some d,.binOp op t x y u,ty,ps,af,gd⟩ σ=AMz E call N ⟨some d,.binOp op t x y u,ty,ps,af,gd⟩ σ:=rfl
@[go_sem] theorem Xrz {op t x} {T:Tys} {os:List Oper} {dd:Option Tmp} {r:List Oper}:A1z T os ⟨dd,(.unOp op t x),ty,ps,af,gd⟩ r=false:=rfl
@[go_sem] theorem Wyz {op t x} {dd:Option Tmp} {r:List Oper}:Axz (⟨dd,(.unOp op t x),ty,ps,af,gd⟩::r)=false:=rfl
@[go_sem] theorem Wxz {op t x}:Adz (.unOp op t x)=false:=rfl
@[go_sem ↓] theorem ABNz {op t x}:Aoz E call N ⟨some d,.unOp op t x,ty,ps,af,gd⟩ σ=AMz E call N ⟨some d,.unOp op t x,ty,ps,af,gd⟩ σ:=rfl
@[go_sem] theorem Vxz {s t x} {T:Tys} {os:List Oper} {dd:Option Tmp} {r:List Oper}:A1z T os ⟨dd,(.convert s t x),ty,ps,af,gd⟩ r=false:=rfl
@[go_sem] theorem VOz {s t x} {dd:Option Tmp} {r:List Oper}:Axz (⟨dd,(.convert s t x),ty,ps,af,gd⟩::r)=false:=rfl
@[go_sem] theorem VKz {s t x}:Adz (.convert s t x)=false:=rfl
@[go_sem ↓] theorem X9z {s t x}:Aoz E call N ⟨some d,.convert s t x,ty,ps,af,gd⟩ σ=AMz E call N ⟨some d,.convert s t x,ty,ps,af,gd⟩ σ:=rfl
@[go_sem] theorem SMz {t x f} {T:Tys} {os:List Oper} {dd:Option Tmp} {r:List Oper}:A1z T os ⟨dd,(.fieldAddr t x f),ty,ps,af,gd⟩ r=false:=rfl
@[go_sem] theorem RUz {t x f} {dd:Option Tmp} {r:List Oper}:Axz (⟨dd,(.fieldAddr t x f),ty,ps,af,gd⟩::r)=false:=rfl
@[go_sem] theorem RRz {t x f}:Adz (.fieldAddr t x f)=false:=rfl
@[go_sem ↓] theorem Tvz {t x f}:Aoz E call N ⟨some d,.fieldAddr t x f,ty,ps,af,gd⟩ σ=AMz E call N ⟨some d,.fieldAddr t x f,ty,ps,af,gd⟩ σ:=rfl
@[go_sem] theorem SLz {t x i} {T:Tys} {os:List Oper} {dd:Option Tmp} {r:List Oper}:A1z T os ⟨dd,(.indexAddr t x i),ty,ps,af,gd⟩ r=false:=rfl
@[go_sem] theorem RTz {t x i} {dd:Option Tmp} {r:List Oper}:Axz (⟨dd,(.indexAddr t x i),ty,ps,af,gd⟩::r)=false:=rfl
@[go_sem] theorem RQz {t x i}:Adz (.indexAddr t x i)=false:=rfl
@[go_sem ↓] theorem Tuz {t x i}:Aoz E call N ⟨some d,.indexAddr t x i,ty,ps,af,gd⟩ σ=AMz E call N ⟨some d,.indexAddr t x i,ty,ps,af,gd⟩ σ:=rfl
@[go_sem] theorem VEz {t x i} {T:Tys} {os:List Oper} {dd:Option Tmp} {r:List Oper}:A1z T os ⟨dd,(.index t x i),ty,ps,af,gd⟩ r=false:=rfl
@[go_sem] theorem ULz {t x i} {dd:Option Tmp} {r:List Oper}:Axz (⟨dd,(.index t x i),ty,ps,af,gd⟩::r)=false:=rfl
@[go_sem] theorem UFz {t x i}:Adz (.index t x i)=false:=rfl
@[go_sem ↓] theorem W9z {t x i}:Aoz E call N ⟨some d,.index t x i,ty,ps,af,gd⟩ σ=AMz E call N ⟨some d,.index t x i,ty,ps,af,gd⟩ σ:=rfl
@[go_sem] theorem Vwz {t x} {T:Tys} {os:List Oper} {dd:Option Tmp} {r:List Oper}:A1z T os ⟨dd,(.load t x),ty,ps,af,gd⟩ r=false:=rfl
@[go_sem] theorem VNz {t x} {dd:Option Tmp} {r:List Oper}:Axz (⟨dd,(.load t x),ty,ps,af,gd⟩::r)=false:=rfl
@[go_sem] theorem VJz {t x}:Adz (.load t x)=false:=rfl
@[go_sem ↓] theorem X8z {t x}:Aoz E call N ⟨some d,.load t x,ty,ps,af,gd⟩ σ=AMz E call N ⟨some d,.load t x,ty,ps,af,gd⟩ σ:=rfl
@[go_sem] theorem Tiz {x i} {T:Tys} {os:List Oper} {dd:Option Tmp} {r:List Oper}:A1z T os ⟨dd,(.extract x i),ty,ps,af,gd⟩ r=false:=rfl
@[go_sem] theorem S2z {x i} {dd:Option Tmp} {r:List Oper}:Axz (⟨dd,(.extract x i),ty,ps,af,gd⟩::r)=false:=rfl
@[go_sem] theorem S1z {x i}:Adz (.extract x i)=false:=rfl
@[go_sem ↓] theorem VTz {x i}:Aoz E call N ⟨some d,.extract x i,ty,ps,af,gd⟩ σ=AMz E call N ⟨some d,.extract x i,ty,ps,af,gd⟩ σ:=rfl
@[go_sem] theorem VDz {t x lo hi m} {T:Tys} {os:List Oper} {dd:Option Tmp} {r:List Oper}:A1z T os ⟨dd,(.slice t x lo hi m),ty,ps,af,gd⟩ r=false:=rfl
@[go_sem] theorem UKz {t x lo hi m} {dd:Option Tmp} {r:List Oper}:Axz (⟨dd,(.slice t x lo hi m),ty,ps,af,gd⟩::r)=false:=rfl
@[go_sem] theorem UEz {t x lo hi m}:Adz (.slice t x lo hi m)=false:=rfl
@[go_sem ↓] theorem W8z {t x lo hi m}:Aoz E call N ⟨some d,.slice t x lo hi m,ty,ps,af,gd⟩ σ=AMz E call N ⟨some d,.slice t x lo hi m,ty,ps,af,gd⟩ σ:=rfl
@[go_sem] theorem Szz {x} {T:Tys} {os:List Oper} {dd:Option Tmp} {r:List Oper}:A1z T os ⟨dd,(.nilCheck x),ty,ps,af,gd⟩ r=false:=rfl
@[go_sem] theorem SSz {x} {dd:Option Tmp} {r:List Oper}:Axz (⟨dd,(.nilCheck x),ty,ps,af,gd⟩::r)=false:=rfl
@[go_sem] theorem SNz {x}:Adz (.nilCheck x)=false:=rfl
@[go_sem ↓] theorem UVz {x}:Aoz E call N ⟨some d,.nilCheck x,ty,ps,af,gd⟩ σ=AMz E call N ⟨some d,.nilCheck x,ty,ps,af,gd⟩ σ:=rfl
@[go_sem] theorem VFz {t p} {T:Tys} {os:List Oper} {dd:Option Tmp} {r:List Oper}:A1z T os ⟨dd,(.build t p),ty,ps,af,gd⟩ r=false:=rfl
@[go_sem] theorem UMz {t p} {dd:Option Tmp} {r:List Oper}:Axz (⟨dd,(.build t p),ty,ps,af,gd⟩::r)=false:=rfl
@[go_sem] theorem UGz {t p}:Adz (.build t p)=false:=rfl
@[go_sem ↓] theorem XAz {t p}:Aoz E call N ⟨some d,.build t p,ty,ps,af,gd⟩ σ=AMz E call N ⟨some d,.build t p,ty,ps,af,gd⟩ σ:=rfl
@[go_sem] theorem S0z {g a b} {T:Tys} {os:List Oper} {dd:Option Tmp} {r:List Oper}:A1z T os ⟨dd,(.makeFunc g a b),ty,ps,af,gd⟩ r=false:=rfl
@[go_sem] theorem STz {g a b} {dd:Option Tmp} {r:List Oper}:Axz (⟨dd,(.makeFunc g a b),ty,ps,af,gd⟩::r)=false:=rfl
@[go_sem] theorem SOz {g a b}:Adz (.makeFunc g a b)=false:=rfl
@[go_sem ↓] theorem UWz {g a b}:Aoz E call N ⟨some d,.makeFunc g a b,ty,ps,af,gd⟩ σ=AMz E call N ⟨some d,.makeFunc g a b,ty,ps,af,gd⟩ σ:=rfl
@[go_sem] theorem SKz {t a b} {T:Tys} {os:List Oper} {dd:Option Tmp} {r:List Oper}:A1z T os ⟨dd,(.makeSlice t a b),ty,ps,af,gd⟩ r=false:=rfl
@[go_sem] theorem RSz {t a b} {dd:Option Tmp} {r:List Oper}:Axz (⟨dd,(.makeSlice t a b),ty,ps,af,gd⟩::r)=false:=rfl
@[go_sem] theorem RPz {t a b}:Adz (.makeSlice t a b)=false:=rfl
@[go_sem ↓] theorem Ttz {t a b}:Aoz E call N ⟨some d,.makeSlice t a b,ty,ps,af,gd⟩ σ=AMz E call N ⟨some d,.makeSlice t a b,ty,ps,af,gd⟩ σ:=rfl
@[go_sem] theorem Qgz {t a b}:Adz (.buildSlice t a b)=false:=rfl
@[go_sem ↓] theorem S4z {t a b}:Aoz E call N ⟨some d,.buildSlice t a b,ty,ps,af,gd⟩ σ=AMz E call N ⟨some d,.buildSlice t a b,ty,ps,af,gd⟩ σ:=rfl
@[go_sem] theorem Wtz {a b} {T:Tys} {os:List Oper} {dd:Option Tmp} {r:List Oper}:A1z T os ⟨dd,(.call ⟨.builtin .len,a,b⟩),ty,ps,af,gd⟩ r=false:=rfl
@[go_sem] theorem V7z {a b} {dd:Option Tmp} {r:List Oper}:Axz (⟨dd,(.call ⟨.builtin .len,a,b⟩),ty,ps,af,gd⟩::r)=false:=rfl
@[go_sem] theorem V1z {a b}:Adz (.call ⟨.builtin .len,a,b⟩)=false:=rfl
@[go_sem ↓] theorem Y9z {a b}:Aoz E call N ⟨some d,.call ⟨.builtin .len,a,b⟩,ty,ps,af,gd⟩ σ=AMz E call N ⟨some d,.call ⟨.builtin .len,a,b⟩,ty,ps,af,gd⟩ σ:=rfl
@[go_sem] theorem Wrz {a b} {T:Tys} {os:List Oper} {dd:Option Tmp} {r:List Oper}:A1z T os ⟨dd,(.call ⟨.builtin .min,a,b⟩),ty,ps,af,gd⟩ r=false:=rfl
@[go_sem] theorem V5z {a b} {dd:Option Tmp} {r:List Oper}:Axz (⟨dd,(.call ⟨.builtin .min,a,b⟩),ty,ps,af,gd⟩::r)=false:=rfl
@[go_sem] theorem Vzz {a b}:Adz (.call ⟨.builtin .min,a,b⟩)=false:=rfl
@[go_sem ↓] theorem Y7z {a b}:Aoz E call N ⟨some d,.call ⟨.builtin .min,a,b⟩,ty,ps,af,gd⟩ σ=AMz E call N ⟨some d,.call ⟨.builtin .min,a,b⟩,ty,ps,af,gd⟩ σ:=rfl
@[go_sem] theorem Wsz {a b} {T:Tys} {os:List Oper} {dd:Option Tmp} {r:List Oper}:A1z T os ⟨dd,(.call ⟨.builtin .max,a,b⟩),ty,ps,af,gd⟩ r=false:=rfl
@[go_sem] theorem V6z {a b} {dd:Option Tmp} {r:List Oper}:Axz (⟨dd,(.call ⟨.builtin .max,a,b⟩),ty,ps,af,gd⟩::r)=false:=rfl
@[go_sem] theorem V0z {a b}:Adz (.call ⟨.builtin .max,a,b⟩)=false:=rfl
@[go_sem ↓] theorem Y8z {a b}:Aoz E call N ⟨some d,.call ⟨.builtin .max,a,b⟩,ty,ps,af,gd⟩ σ=AMz E call N ⟨some d,.call ⟨.builtin .max,a,b⟩,ty,ps,af,gd⟩ σ:=rfl
@[go_sem] theorem VBz {f a b} {T:Tys} {os:List Oper} {dd:Option Tmp} {r:List Oper}:A1z T os ⟨dd,(.call ⟨.value f,a,b⟩),ty,ps,af,gd⟩ r=if ty=0 then true else false:=rfl
@[go_sem] theorem UIz {f a b} {dd:Option Tmp} {r:List Oper}:Axz (⟨dd,(.call ⟨.value f,a,b⟩),ty,ps,af,gd⟩::r)=false:=rfl
@[go_sem] theorem UDz {f a b}:Adz (.call ⟨.value f,a,b⟩)=false:=rfl
@[go_sem ↓] theorem W7z {f a b}:Aoz E call N ⟨some d,.call ⟨.value f,a,b⟩,ty,ps,af,gd⟩ σ=AMz E call N ⟨some d,.call ⟨.value f,a,b⟩,ty,ps,af,gd⟩ σ:=rfl
@[go_sem] theorem Wuz {t x} {T:Tys} {os:List Oper} {dd:Option Tmp} {r:List Oper}:A1z T os ⟨dd,(.box t x),ty,ps,af,gd⟩ r=false:=rfl
@[go_sem] theorem V8z {t x} {dd:Option Tmp} {r:List Oper}:Axz (⟨dd,(.box t x),ty,ps,af,gd⟩::r)=false:=rfl
@[go_sem] theorem V2z {t x}:Adz (.box t x)=false:=rfl
@[go_sem ↓] theorem ZAz {t x}:Aoz E call N ⟨some d,.box t x,ty,ps,af,gd⟩ σ=AMz E call N ⟨some d,.box t x,ty,ps,af,gd⟩ σ:=rfl
@[go_sem] theorem VGz {t} {T:Tys} {os:List Oper} {dd:Option Tmp} {r:List Oper}:A1z T os ⟨dd,(.alloc t),ty,ps,af,gd⟩ r=false:=rfl
@[go_sem] theorem UNz {t} {dd:Option Tmp} {r:List Oper}:Axz (⟨dd,(.alloc t),ty,ps,af,gd⟩::r)=false:=rfl
@[go_sem] theorem UHz {t}:Adz (.alloc t)=true:=rfl
@[go_sem] theorem UCz {a b} {T:Tys} {os:List Oper} {dd:Option Tmp} {r:List Oper}:A1z T os ⟨dd,(.call ⟨.builtin .append,a,b⟩),ty,ps,af,gd⟩ r=true:=rfl
@[go_sem] theorem Toz {a b} {dd:Option Tmp} {r:List Oper}:Axz (⟨dd,(.call ⟨.builtin .append,a,b⟩),ty,ps,af,gd⟩::r)=true:=rfl
@[go_sem] theorem ROz {t a b} {T:Tys} {os:List Oper} {dd:Option Tmp} {r:List Oper}:A1z T os ⟨dd,(.buildSlice t a b),ty,ps,af,gd⟩ r=(Axz r&& !F4z T os b.toList):=rfl
attribute [go_sem] PFz F4z Irz FSz Qwz feeds Khz
@[go_sem] theorem Xqz {d t:Nat}:Jqz d (.tmp t)=decide (t=d):=rfl
@[go_sem] theorem Vtz {d:Nat} {v:Value}:Jqz d (.const v)=false:=rfl
@[go_sem] theorem Wqz {d:Nat} {v:FuncId}:Jqz d (.func v)=false:=rfl
@[go_sem] theorem WIz {T os d}:drawn T os d .undef= .undef:=by unfold drawn;split<;>rfl
@[go_sem] theorem W5z {T os d}:drawn T os d skipSV=skipSV:=by unfold drawn;split<;>rfl
@[go_sem] theorem Y1z {T os d f p}:drawn T os d (.c .one [.sh f p])= .c .one [.sh f p]:=by unfold drawn;split<;>rfl
@[go_sem] theorem Y5z {T os d s o q kd lo f es rows}:drawn T os d (.c .one [.br s o q kd lo f es rows])= .c .one [.br s o q kd lo f es rows]:=by unfold drawn;split<;>rfl
@[go_sem] theorem W6z {T os d}:drawn T os d (.c .one [.dead])= .c .one [.dead]:=by unfold drawn;split<;>rfl
@[go_sem] theorem X5z {T os d l}:drawn T os d (.c .agg l)= .c .agg l:=by unfold drawn;split<;>rfl
@[go_sem] theorem X4z {T os d l}:drawn T os d (.c .box l)= .c .box l:=by unfold drawn;split<;>rfl
@[go_sem] theorem X3z {T os d s l}:drawn T os d (.c (.tup s) l)= .c (.tup s) l:=by unfold drawn;split<;>rfl
@[go_sem] theorem Y6z {T os d s o}:drawn T os d (.bp s o)= .bp s o:=by unfold drawn;split<;>rfl
@[go_sem] theorem Y4z {T os d s o q kd fl es i f row}:drawn T os d (.ep s o q kd fl es i f row)= .ep s o q kd fl es i f row:=by unfold drawn;split<;>rfl
@[go_sem] theorem Y0z {T os d fl row f}:drawn T os d (.sp fl row f)= .sp fl row f:=by unfold drawn;split<;>rfl
@[go_sem] theorem Y3z {T os d g caps}:drawn T os d (.fn g caps)= .fn g caps:=by unfold drawn;split<;>rfl
@[go_sem] theorem Y2z {T os d f es rows}:drawn T os d (.c .one [.ow f es rows])=if feeds T os d=true then .c .one [.sh f (.s es (Agz rows))]else .c .one [.ow f es rows]:=rfl
@[go_sem] theorem VSz {T:Tys} {os:List Oper} {t:Nat}:Fez T os (.tmp t)=Irz T os t:=rfl
@[go_sem] theorem Tpz {T:Tys} {os:List Oper} {v:Value}:Fez T os (.const v)=true:=rfl
@[go_sem] theorem USz {T:Tys} {os:List Oper} {v:FuncId}:Fez T os (.func v)=false:=rfl
@[go_sem] theorem URz {T:Tys} {os:List Oper} {v}:Fez T os (.global v)=false:=rfl
@[go_sem] theorem YUz {a b:Nat}:(some a==some b)=(a==b):=rfl
@[go_sem] theorem Ylz {a:Nat}:((none:Option Nat)==some a)=false:=rfl
@[go_sem] theorem Qqz {t a b} {dd:Option Tmp} {r:List Oper}:Axz (⟨dd,(.buildSlice t a b),ty,ps,af,gd⟩::r)=false:=rfl
@[go_sem] theorem V4z:Axz []=false:=rfl
@[go_sem] theorem VCz {t a x} {T:Tys} {os:List Oper} {dd:Option Tmp} {r:List Oper}:A1z T os ⟨dd,(.store t a x),ty,ps,af,gd⟩ r=true:=rfl
@[go_sem] theorem UJz {t a x} {dd:Option Tmp} {r:List Oper}:Axz (⟨dd,(.store t a x),ty,ps,af,gd⟩::r)=false:=rfl
@[go_sem ↓] theorem AAfz {x}:AMz E call N ⟨some d,.move x,ty,ps,af,gd⟩ σ=some (opd E.T N ty σ x):=rfl
@[go_sem ↓] theorem XUz {x}:AMz E call N ⟨some d,.assign x,ty,ps,af,gd⟩ σ=asgP (opd E.T N ty σ x):=rfl
attribute [go_sem] asgP
@[go_sem ↓] theorem AAez {c a b}:AMz E call N ⟨some d,.pick c a b,ty,ps,af,gd⟩ σ=(opd E.T N ty σ c).bool?.map fun t=>if t then opd E.T N ty σ a else opd E.T N ty σ b:=rfl
@[go_sem ↓] theorem ADWz {op t x y u}:AMz E call N ⟨some d,.binOp op t x y u,ty,ps,af,gd⟩ σ=(A6z E.T op t (opd E.T N ty σ x) (opd E.T N ty σ y)).map pvSV:=rfl
@[go_sem ↓] theorem AGHz {op t x}:AMz E call N ⟨some d,.unOp op t x,ty,ps,af,gd⟩ σ=(unSV op (opd E.T N ty σ x)).map pvSV:=rfl
@[go_sem ↓] theorem AAhz {s t x}:AMz E call N ⟨some d,.convert s t x,ty,ps,af,gd⟩ σ=Ffz E.T s t (opd E.T N ty σ x):=rfl
@[go_sem ↓] theorem U3z {t x f}:AMz E call N ⟨some d,.fieldAddr t x f,ty,ps,af,gd⟩ σ=EAz E.T t (opd E.T N ty σ x) f:=rfl
@[go_sem ↓] theorem U2z {t x i}:AMz E call N ⟨some d,.indexAddr t x i,ty,ps,af,gd⟩ σ=EXz E.T t (opd E.T N ty σ x) (opd E.T N ty σ i):=rfl
@[go_sem ↓] theorem Ydz {t x i}:AMz E call N ⟨some d,.index t x i,ty,ps,af,gd⟩ σ=Fgz E.T t (opd E.T N ty σ x) (opd E.T N ty σ i):=rfl
@[go_sem ↓] theorem AAgz {t x}:AMz E call N ⟨some d,.load t x,ty,ps,af,gd⟩ σ=Cpz E.T σ t (opd E.T N ty σ x):=rfl
@[go_sem ↓] theorem Wez {x i}:AMz E call N ⟨some d,.extract x i,ty,ps,af,gd⟩ σ=Lhz (opd E.T N ty σ x) i:=rfl
@[go_sem ↓] theorem Ycz {t x lo hi}:AMz E call N ⟨some d,.slice t x lo hi none,ty,ps,af,gd⟩ σ=ESz E.T t (opd E.T N ty σ x) (lo.map (opd E.T N ty σ)) (hi.map (opd E.T N ty σ)):=rfl
@[go_sem ↓] theorem Vlz {x}:AMz E call N ⟨some d,.nilCheck x,ty,ps,af,gd⟩ σ=if D9z (opd E.T N ty σ x)then some (opd E.T N ty σ x)else none:=rfl
@[go_sem ↓] theorem Yez {t ps'}:AMz E call N ⟨some d,.build t ps',ty,ps,af,gd⟩ σ=(E.T.zr t).bind fun z=>(E.T.ag t).bind fun a=>if a then(DVz E.T t (ps'.toList.map fun p=>(p.1,opd E.T N ty σ p.2)) (z.map (PV.cv false))).map fun l=> .c .agg l else none:=rfl
@[go_sem ↓] theorem U1z {t n m}:AMz E call N ⟨some d,.makeSlice t n m,ty,ps,af,gd⟩ σ=Jiz E.T t (opd E.T N ty σ n) (opd E.T N ty σ m):=rfl
@[go_sem ↓] theorem ADVz {x t}:AMz E call N ⟨some d,.call ⟨.builtin .len,#[x],#[t]⟩,ty,ps,af,gd⟩ σ=FAz E.T t (opd E.T N ty σ x):=rfl
@[go_sem ↓] theorem ADTz {x y ts}:AMz E call N ⟨some d,.call ⟨.builtin .min,#[x,y],ts⟩,ty,ps,af,gd⟩ σ=min2 (opd E.T N ty σ x) (opd E.T N ty σ y):=by
 show Cfz min2 (opd E.T N ty σ x) [opd E.T N ty σ y]=_
 simp only[Cfz];cases min2 (opd E.T N ty σ x) (opd E.T N ty σ y)<;>rfl
@[go_sem ↓] theorem ADUz {x y ts}:AMz E call N ⟨some d,.call ⟨.builtin .max,#[x,y],ts⟩,ty,ps,af,gd⟩ σ=max2 (opd E.T N ty σ x) (opd E.T N ty σ y):=by
 show Cfz max2 (opd E.T N ty σ x) [opd E.T N ty σ y]=_
 simp only[Cfz];cases max2 (opd E.T N ty σ x) (opd E.T N ty σ y)<;>rfl
def FVz (E:Env) (call:CallF) (N:Nat) (ty:TypeId) (σ:St) (g:FuncId) (xs:List Operand):Option SV:=
 if ((xs.map (opd E.T N ty σ)).flatMap Ajz).isEmpty then (AZz 0 (xs.map (opd E.T N ty σ))).bind fun q => (call g q.1 []).bind fun r =>
     if r.boxes.length=0∧(r.res.cells.any CV.flag&& !q.2.1.isEmpty)=false∧CIz r.res=true∧r.res.cells.all noBr=true then some (r.res.reflag q.2.2)else none
    else none
@[go_sem ↓] theorem AAiz {g:FuncId} {xs:Array Operand} {ts}:AMz E call N ⟨some d,.call ⟨.value (.func g),xs,ts⟩,ty,ps,af,gd⟩ σ=E4z (E.T.so g) (fun _=>none) (FVz E call N ty σ g xs.toList):=by
 have hp:AMz E call N ⟨some d,.call ⟨.value (.func g),xs,ts⟩,ty,ps,af,gd⟩ σ=if(E.T.so g).isSome then none else FVz E call N ty σ g xs.toList:=rfl
 rw[hp]
 cases E.T.so g<;>rfl
@[go_sem ↓] theorem Wdz {g:FuncId} {xs:List Operand} {M:Kont SV}: @Wq _ (FVz E call N ty σ g xs) M= @Wq _ (some (xs.map (opd E.T N ty σ))) ⟨fun vs=> @Bq ((vs.flatMap Ajz).isEmpty=true)
  ⟨@Wq _ (AZz 0 vs) ⟨fun q=> @Wq _ (call g q.1 []) ⟨fun r=> @Bq (r.boxes.length=0∧(r.res.cells.any CV.flag&& !q.2.1.isEmpty)=false∧CIz r.res=true∧r.res.cells.all noBr=true) ⟨@Wq _ (some (r.res.reflag q.2.2)) M⟩ ⟨False⟩⟩⟩⟩ ⟨False⟩⟩:=by
 show Wp (FVz E call N ty σ g xs) M.run=Wp (some (xs.map (opd E.T N ty σ))) fun vs=>Br ((vs.flatMap Ajz).isEmpty=true) (Wp (AZz 0 vs) fun q=>Wp (call g q.1 []) fun r=>Br (r.boxes.length=0∧(r.res.cells.any CV.flag&& !q.2.1.isEmpty)=false∧CIz r.res=true∧r.res.cells.all noBr=true) (Wp (some (r.res.reflag q.2.2)) M.run) False) False
 unfold FVz
 simp only[Ahz,DAz,CMz,DDz]
@[go_sem] theorem Wgz:plain skipSV=true:=rfl
@[go_sem] theorem Wwz:CVz skipSV=false:=rfl
@[go_sem] theorem Vmz:plain .undef=true:=rfl
@[go_sem] theorem XWz {l}:plain (.c .one l)=l.all fun c=> !c.isOw:=rfl
@[go_sem] theorem XYz {l}:plain (.c .agg l)=l.all fun c=> !c.isOw:=rfl
@[go_sem] theorem XVz {s l}:plain (.c (.tup s) l)=l.all fun c=> !c.isOw:=rfl
@[go_sem] theorem Yiz {s o}:plain (.bp s o)=true:=rfl
@[go_sem] theorem Yhz {s o q kd fl es i f row}:plain (.ep s o q kd fl es i f row)=true:=rfl
@[go_sem] theorem Yfz {fl row f}:plain (.sp fl row f)=true:=rfl
@[go_sem] theorem Ygz {g caps}:plain (.fn g caps)=true:=rfl
@[go_sem] theorem Vyz:CVz .undef=false:=rfl
@[go_sem] theorem Xvz {l}:CVz (.c .one l)=false:=rfl
@[go_sem] theorem Xxz {l}:CVz (.c .agg l)=false:=rfl
@[go_sem] theorem Xuz {s l}:CVz (.c (.tup s) l)=false:=rfl
@[go_sem] theorem Ysz {s o}:CVz (.bp s o)=false:=rfl
@[go_sem] theorem Yrz {s o q kd fl es i f row}:CVz (.ep s o q kd fl es i f row)=false:=rfl
@[go_sem] theorem Ypz {fl row f}:CVz (.sp fl row f)=false:=rfl
@[go_sem] theorem Yqz {g caps}:CVz (.fn g caps)=false:=rfl
end
end Go.Proofs.YtblelojdboefjaaGreatDoor.R
namespace Go.Proofs.YtblelojdboefjaaGreatDoor.R
open Go
theorem QJz {c:CV} {σ:St} {q:St×Bool×PV} (h:nest c []=some q):q.1=[]∧nest c σ=some (σ,q.2):=by
 cases c with
 |sh f p=>simp only[nest]at h ⊢;injection h with h;subst h;exact⟨rfl,rfl⟩
 |ow f es rows=>
  cases rows with
  |nil=>simp only[nest]at h ⊢;injection h with h;subst h;exact⟨rfl,rfl⟩
  |cons _ _=>simp[nest]at h
 |br s o q kd lo f es rows=>simp[nest,AAz,CV.isOw]at h
 |dead=>simp[nest]at h
theorem O8z {tg tg':Tgt} {c:CV} {σ:St} {q:St×(CV→CV)×Bool×PV} (h:Ccz tg c []=some q):q.1=[]∧q.2.1=id∧Ccz tg' c σ=some (σ,q.2):=by
 cases c with
 |sh f p=>simp only[Ccz]at h ⊢;injection h with h;subst h;exact⟨rfl,rfl,rfl⟩
 |ow f es rows=>
  cases rows with
  |nil=>simp only[Ccz]at h ⊢;injection h with h;subst h;exact⟨rfl,rfl,rfl⟩
  |cons _ _=>simp[Ccz]at h
 |br s o q kd lo f es rows=>simp[Ccz,AAz,CV.isOw]at h
 |dead=>simp[Ccz]at h
theorem Fbz {σ:St}:∀{l:List CV} {tg tg':Option Tgt} {m m':CV→CV} {q:St×Bool×List PV},(∀x,m x=x)→(∀x,m' x=x)→tg.isNone=tg'.isNone→Aiz tg m l []=some q→q.1=[]∧Aiz tg' m' l σ=some (σ,q.2)
 |[],tg,tg',m,m',q,hm,hm',ht,h=>by simp only[Aiz]at h ⊢;injection h with h;subst h;exact⟨rfl,rfl⟩
 |c::l,none,none,m,m',q,hm,hm',ht,h=>by
  simp only[Aiz,hm,hm']at h ⊢
  obtain⟨r,h1,h2⟩:=Option.bind_eq_some_iff.1 h
  obtain⟨e1,e2⟩:=QJz (σ:=σ) h1
  obtain⟨p,h3,h4⟩:=Option.map_eq_some_iff.1 h2
  rw[e1]at h3
  obtain⟨e3,e4⟩:=Fbz (σ:=σ) hm hm' rfl h3
  subst h4
  refine⟨e3,?_⟩
  rw[e2,Option.bind_some]
  simp only[e4,Option.map_some]
 |c::l,some g,some g',m,m',q,hm,hm',ht,h=>by
  simp only[Aiz,hm,hm']at h ⊢
  obtain⟨r,h1,h2⟩:=Option.bind_eq_some_iff.1 h
  obtain⟨e1,e5,e2⟩:=O8z (tg':=g') (σ:=σ) h1
  obtain⟨p,h3,h4⟩:=Option.map_eq_some_iff.1 h2
  rw[e1]at h3
  obtain⟨e3,e4⟩:=Fbz (σ:=σ) (tg:=some g.next) (tg':=some g'.next) (m:=fun x=>r.2.1 x) (m':=fun x=>r.2.1 x) (fun x=>by rw[e5];rfl) (fun x=>by rw[e5];rfl) rfl h3
  subst h4
  refine⟨e3,?_⟩
  rw[e2,Option.bind_some]
  simp only[e4,Option.map_some]
 |c::l,none,some _,m,m',q,hm,hm',ht,h=>by simp at ht
 |c::l,some _,none,m,m',q,hm,hm',ht,h=>by simp at ht
theorem HPz {σ:St} {es:Nat}:∀{l:List (Nat×SV)} {tg tg':Option Nat} {f:Bool} {rows:List (List PV)} {q:St×Bool×List (List PV)},tg.isNone=tg'.isNone→Aqz tg es l f rows []=some q→q.1=[]∧Aqz tg' es l f rows σ=some (σ,q.2)
 |[],tg,tg',f,rows,q,ht,h=>by simp only[Aqz]at h ⊢;injection h with h;subst h;exact⟨rfl,rfl⟩
 |(i,x)::l,tg,tg',f,rows,q,ht,h=>by
  simp only[Aqz]at h ⊢
  obtain⟨cs,h1,h⟩:=Option.bind_eq_some_iff.1 h
  obtain⟨r,h2,h⟩:=Option.bind_eq_some_iff.1 h
  obtain⟨e1,e2⟩:=Fbz (σ:=σ) (tg':=tg'.map fun d=>⟨d,0,[],i,0⟩) (m':=id) (fun x=>rfl) (fun x=>rfl) (by simpa using ht) h2
  split at h
  ·rename_i hc
   rw[e1]at h
   obtain⟨e3,e4⟩:=HPz (σ:=σ) ht h
   refine⟨e3,?_⟩
   rw[h1,Option.bind_some,e2,Option.bind_some,if_pos (by rw[←ht];exact hc)]
   exact e4
  ·simp at h
section
variable {E:Env} {call:CallF} {N:Nat} {σ:St} {L:Kont St} {d:Tmp} {ty:TypeId} {ps:String} {af:Array Edge} {gd:Option (Nat×Bool)}
def F0z (T:Tys) (d:Nat) (t:TypeId) (n:Nat) (l:List (Nat×SV)) (σ:St):Option (St×SV):=(T.sl t).bind fun e=>(T.sz e).bind fun es=>(T.zr e).bind fun z=>
   if n*es≤16777216∧z.length=es then(Aqz (if T.mo then some d else none) es l false (List.replicate n (if T.mo then z.map PV.zo else z)) σ).map fun r=>(r.1,.c .one [.ow r.2.1 es r.2.2])else none
@[go_sem ↓] theorem T9z {t n ps'}: @Wq _ (ALz E call N ⟨some d,.buildSlice t n ps',ty,ps,af,gd⟩ σ) L= @Bq (d<N) ⟨@Wq _ (some (clear d σ)) ⟨fun σ=> @Wq _ (F0z E.T d t n (ps'.toList.map fun p=>(p.1,opd E.T N ty σ p.2)) σ) ⟨fun r=> @Wq _ (some (r.1.set d r.2)) L⟩⟩⟩ ⟨False⟩:=by
 show Wp _ L.run=Br (d<N) (Wp (some (clear d σ)) fun σ=>Wp (F0z E.T d t n (ps'.toList.map fun p=>(p.1,opd E.T N ty σ p.2)) σ) fun r=>Wp (some (r.1.set d r.2)) L.run) False
 by_cases hd:d<N
 ·simp only[ALz,hd,if_true,CXz,Ahz,BGz]
  generalize clear d σ=τ
  have he:Cmz E call N ⟨some d,.buildSlice t n ps',ty,ps,af,gd⟩ d τ=F0z E.T d t n (ps'.toList.map fun p=>(p.1,opd E.T N ty τ p.2)) τ:=rfl
  have hp:∀v,AMz E call N ⟨some d,.buildSlice t n ps',ty,ps,af,gd⟩ τ=some v→F0z E.T d t n (ps'.toList.map fun p=>(p.1,opd E.T N ty τ p.2)) τ=some (τ,v):=fun v h=>by
   simp only[AMz]at h
   unfold F0z
   obtain⟨e,h1,h⟩:=Option.bind_eq_some_iff.1 h
   obtain⟨es,h2,h⟩:=Option.bind_eq_some_iff.1 h
   obtain⟨z,h3,h⟩:=Option.bind_eq_some_iff.1 h
   rw[h1,Option.bind_some,h2,Option.bind_some,h3,Option.bind_some]
   split at h
   ·rename_i hc
    obtain⟨q,h4,h5⟩:=Option.map_eq_some_iff.1 h
    obtain⟨_,e2⟩:=HPz (σ:=τ) (tg':=if E.T.mo=true then some d else none) (by split<;>rfl) h4
    rw[if_pos hc,e2,Option.map_some,h5]
   ·simp at h
  cases hv:AMz E call N ⟨some d,.buildSlice t n ps',ty,ps,af,gd⟩ τ with
  |some v=>simp only[Ahz,hp v hv]
  |none=>simp only[he,Brz]
 ·simp[ALz,hd,Br]
@[go_sem ↓] theorem UAz {t n ps'}:AMz E call N ⟨some d,.buildSlice t n ps',ty,ps,af,gd⟩ σ=(F0z E.T 0 t n (ps'.toList.map fun p=>(p.1,opd E.T N ty σ p.2)) []).map (·.2):=by
 show((E.T.sl t).bind fun e=>(E.T.sz e).bind fun es=>(E.T.zr e).bind fun z=>
   if n*es≤16777216∧z.length=es then(Aqz (if E.T.mo then some 0 else none) es (ps'.toList.map fun p=>(p.1,opd E.T N ty σ p.2)) false (List.replicate n (if E.T.mo then z.map PV.zo else z)) []).map fun r=>SV.c .one [.ow r.2.1 es r.2.2]else none)=_
 unfold F0z
 cases E.T.sl t with
 |none=>rfl
 |some e=>
  simp only[Option.bind_some]
  cases E.T.sz e with
  |none=>rfl
  |some es=>
   simp only[Option.bind_some]
   cases E.T.zr e with
   |none=>rfl
   |some z=>
    simp only[Option.bind_some]
    split
    ·simp[Option.map_map,Function.comp_def]
    ·rfl
@[go_sem] theorem AA2z {f p}:isSh (.sh f p)=true:=rfl
@[go_sem] theorem AA3z {f es rows}:isSh (.ow f es rows)=false:=rfl
@[go_sem] theorem AA4z {s o q kd lo f es rows}:isSh (.br s o q kd lo f es rows)=false:=rfl
@[go_sem] theorem Xsz:isSh .dead=false:=rfl
attribute [go_sem] FQz Option.isNone_some Option.isNone_none
attribute [go_sem] F0z bytes? Nat.one_mul Nat.mul_one
end
def KDz (E:Env) (call:CallF) (N:Nat) (ty:TypeId) (d:Nat) (σ:St) (g:FuncId) (f:Operand) (xs:List Operand):Option (St×SV):=
  if ((xs.map (opd E.T N ty σ)).flatMap Ajz).isEmpty then (AZz 0 (xs.map (opd E.T N ty σ))).bind fun q => (call g q.1 []).bind fun r => Ddz σ q r
      else Bgz E call N ty d σ f xs
def Pez (E:Env) (call:CallF) (N:Nat) (ty:TypeId) (d:Nat) (σ:St) (v:SV) (f:Operand) (xs:List Operand):Option (St×SV):=
 match v with
 | .fn g []=>E4z (E.T.so g) (fun h=>h d σ (xs.map (opd E.T N ty σ))) (KDz E call N ty d σ g f xs)
 |_=>Bgz E call N ty d σ f xs
@[go_sem ↓] theorem WNz {E:Env} {call:CallF} {N:Nat} {ty:TypeId} {d:Nat} {σ:St} {t:Nat} {xs:List Operand} {K:Kont (St×SV)}: @Wq _ (Gfz E call N ty d σ (.tmp t) xs) K= @Wq _ (some (opd E.T N ty σ (.tmp t))) ⟨fun v=> @Wq _ (Pez E call N ty d σ v (.tmp t) xs) K⟩:=by
 rw[ERz];rfl
@[go_sem ↓] theorem Z2z {E:Env} {call:CallF} {N:Nat} {ty:TypeId} {d:Nat} {σ:St} {g:FuncId} {f:Operand} {xs:List Operand}:Pez E call N ty d σ (.fn g []) f xs=E4z (E.T.so g) (fun h=>h d σ (xs.map (opd E.T N ty σ))) (KDz E call N ty d σ g f xs):=rfl
@[go_sem ↓] theorem AB0z {E:Env} {call:CallF} {N:Nat} {ty:TypeId} {d:Nat} {σ:St} {g:FuncId} {f:Operand} {xs:List Operand} {K:Kont (St×SV)}: @Wq _ (KDz E call N ty d σ g f xs) K= @Wq _ (some (xs.map (opd E.T N ty σ))) ⟨fun vs=> @Bq ((vs.flatMap Ajz).isEmpty=true)
  ⟨@Wq _ (AZz 0 vs) ⟨fun q=> @Wq _ (call g q.1 []) ⟨fun r=> @Wq _ (Ddz σ q r) K⟩⟩⟩ ⟨@Wq _ (Bgz E call N ty d σ f xs) K⟩⟩:=by
 show Wp (KDz E call N ty d σ g f xs) K.run=Wp (some (xs.map (opd E.T N ty σ))) fun vs=>Br ((vs.flatMap Ajz).isEmpty=true) (Wp (AZz 0 vs) fun q=>Wp (call g q.1 []) fun r=>Wp (Ddz σ q r) K.run) (Wp (Bgz E call N ty d σ f xs) K.run)
 rw[Ahz]
 simp only[KDz,DAz,CMz]
theorem KCz {a b:Nat} (h:a+b≤9223372036854775807):(((a+b:Nat):Int)>IntKind.i64.max)=False:=by
 have:IntKind.i64.max=9223372036854775807:=rfl
 simp only[eq_iff_iff,iff_false]
 omega
theorem Qlz:IntKind.i64.max=9223372036854775807:=rfl
theorem DOz {l:List UInt8}:ByteArray.size ⟨⟨l⟩⟩=l.length:=rfl
theorem Pzz {l:List UInt8}:ByteArray.toList ⟨⟨l⟩⟩=l:=by rw[ByteArray.toList_eq]
theorem Nqz {l:List UInt8} {a b:Nat}:ByteArray.extract ⟨⟨l⟩⟩ a b=⟨⟨(l.take b).drop a⟩⟩:=by
 apply ByteArray.ext
 apply Array.ext'
 simp only[ByteArray.data_extract,List.extract_toArray,List.extract_eq_take_drop]
 show(l.drop a).take (b - a)=(l.take b).drop a
 rw[List.drop_take]
theorem IMz {a b:List UInt8}:(⟨⟨a⟩⟩:ByteArray)++⟨⟨b⟩⟩=⟨⟨a++b⟩⟩:=by
 apply ByteArray.ext
 apply Array.ext'
 simp
@[go_sem] theorem AFZz:((0:Nat):Int)=0:=rfl
@[go_sem] theorem AFYz:((1:Nat):Int)=1:=rfl
@[go_sem] theorem AFXz:((2:Nat):Int)=2:=rfl
@[go_sem] theorem AFWz:((3:Nat):Int)=3:=rfl
@[go_sem] theorem AFVz:((4:Nat):Int)=4:=rfl
@[go_sem] theorem AFUz:((5:Nat):Int)=5:=rfl
@[go_sem] theorem AFTz:((6:Nat):Int)=6:=rfl
@[go_sem] theorem AFSz:((7:Nat):Int)=7:=rfl
@[go_sem] theorem AFRz:((8:Nat):Int)=8:=rfl
@[go_sem] theorem ABzz:((47:Nat):Int)=47:=rfl
@[go_sem] theorem AGIz:((-1:Int)<0)=True:=by simp
@[go_sem] theorem z_le:((0:Int)≤0)=True:=by simp
@[go_sem] theorem ADZz:((1:Int)<2)=True:=by simp
attribute [go_sem] List.range'_zero
theorem M3z {a:UInt8} {l:List UInt8}:(a::l==[])=false:=rfl
theorem MLz {a:UInt8} {l:List UInt8}:([]==a::l)=false:=rfl
theorem Nez:(([]:List UInt8)==[])=true:=rfl
attribute [go_sem] M3z MLz Nez DOz Pzz Nqz decide_true decide_false Int.toNat_zero
def dec (n:Nat):ByteArray:=if n<10 then⟨#[UInt8.ofNat (48+n)]⟩else dec (n/10)++⟨#[UInt8.ofNat (48+n % 10)]⟩
theorem Mzz {n:Nat} (h:n<10):dec n=⟨#[UInt8.ofNat (48+n)]⟩:=by rw[dec,if_pos h]
theorem Q8z {n:Nat} (h:¬n<10):dec n=dec (n/10)++⟨#[UInt8.ofNat (48+n % 10)]⟩:=by rw[dec,if_neg h]
theorem Sdz (n:Nat):(dec n).size≤n+1:=by
 induction n using Nat.strongRecOn with
 |ind n ih=>
  by_cases h:n<10
  ·rw[Mzz h];show 1≤n+1;omega
  ·rw[Q8z h,ByteArray.size_append]
   have:=ih (n/10) (by omega)
   show(dec (n/10)).size+1≤n+1
   omega
end Go.Proofs.YtblelojdboefjaaGreatDoor.R
namespace Go.Proofs.YtblelojdboefjaaGreatDoor.R
open Go
section
variable {N:Nat} {σ:St}
@[go_sem] theorem AFFz {f p}:(CV.sh f p).up N= .sh f p:=rfl
@[go_sem] theorem AFGz {f es rows}:(CV.ow f es rows).up N= .ow f es rows:=rfl
@[go_sem] theorem Zxz:CV.dead.up N= .dead:=rfl
@[go_sem] theorem AFHz {s o q kd lo f es rows}:(CV.br s o q kd lo f es rows).up N= .br (s+N) o q kd lo f es rows:=by
 rw[Nat.add_comm];rfl
@[go_sem] theorem XKz:SV.undef.up N= .undef:=rfl
@[go_sem] theorem YTz:skipSV.up N=skipSV:=rfl
@[go_sem] theorem AGDz {sh l}:(SV.c sh l).up N= .c sh (l.map (CV.up N)):=rfl
@[go_sem] theorem ADKz {s o}:(SV.bp s o).up N= .bp (s+N) o:=by rw[Nat.add_comm];rfl
@[go_sem] theorem ADJz {s o q kd fl es i f row}:(SV.ep s o q kd fl es i f row).up N= .ep (s+N) o q kd fl es i f row:=by rw[Nat.add_comm];rfl
@[go_sem] theorem ADHz {fl row f}:(SV.sp fl row f).up N= .sp fl row f:=rfl
@[go_sem] theorem ADIz {g}:(SV.fn g []).up N= .fn g []:=rfl
theorem Lnz {s:Nat}:(upSt N σ).getD s .undef=(σ.getD s .undef).up N:=by
 unfold upSt
 rw[List.getD_eq_getElem?_getD,List.getElem?_map,List.getD_eq_getElem?_getD]
 cases σ[s]? <;>rfl
attribute [go_sem] Lnz Hbz
@[go_sem] theorem AA5z {c:CV}:(c.up N).isOw=c.isOw:=by cases c<;>rfl
@[go_sem] theorem AFcz {c:CV} {q:Path}:(c.up N).atQ q=c.atQ q:=by cases c<;>rfl
@[go_sem] theorem Rez {s o:Nat}:AAz (upSt N σ) s o=(AAz σ s o).up N:=by
 unfold AAz
 rw[Lnz]
 cases σ.getD s .undef with
 |c sh l=>
  simp only[SV.up]
  rw[List.getD_eq_getElem?_getD,List.getElem?_map,List.getD_eq_getElem?_getD]
  cases l[o]? <;>rfl
 |_=>rfl
@[go_sem] theorem R0z {x:SV}:plain (x.up N)=plain x:=by
 have h:∀l:List CV,((l.map (CV.up N)).all fun c=> !c.isOw)=l.all fun c=> !c.isOw:=fun l=>by
  rw[List.all_map];congr 1;funext c;cases c<;>rfl
 cases x with
 |c sh l=>cases sh<;>first|rfl|exact h l
 |_=>rfl
theorem Jgz {g g':Nat→CV→CV} {u:CV→CV} (h:∀j c,g j (u c)=u (g' j c)):∀(j:Nat) (l:List CV),Acz g j (l.map u)=(Acz g' j l).map u
 |_,[]=>rfl
 |j,c::l=>by simp only[List.map_cons,Acz,h,Jgz h]
theorem MQz {g g':Nat→Nat→CV→CV} {e e':EpMap} (hg:∀k j c,g (k+N) j (c.up N)=(g' k j c).up N) (he:∀a b q,e (N+a) b q=(e' a b q).map fun r=>(N+r.1,r.2.1,r.2.2)):∀(k:Nat) (σ:St),Aez g e (k+N) (upSt N σ)=upSt N (Aez g' e' k σ)
 |_,[]=>rfl
 |k,x::l=>by
  have ih:=MQz hg he (k+1) l
  rw[Nat.add_right_comm]at ih
  simp only[upSt,List.map_cons,Aez]at ih ⊢
  rw[ih]
  congr 1
  cases x with
  |c sh l=>simp only[SV.up,SV.mapC,Jgz (hg k)]
  |ep s o q kd fl es i f row=>
   simp only[SV.up,SV.mapC,he]
   cases e' s o q with
   |none=>rfl
   |some r=>obtain⟨a,b,c⟩:=r;rfl
  |_=>rfl
theorem Fzz {g g':Nat→Nat→CV→CV} {e e':EpMap} (hg:∀k j c,g (k+N) j (c.up N)=(g' k j c).up N) (he:∀a b q,e (N+a) b q=(e' a b q).map fun r=>(N+r.1,r.2.1,r.2.2)):Aez g e N (upSt N σ)=upSt N (Aez g' e' 0 σ):=by
 have:=MQz hg he 0 σ
 rwa[Nat.zero_add]at this
theorem EKz {g:Nat→Nat→CV→CV} {e:EpMap} (hg:∀k j (c:CV),g (k+N) j (c.up N)=c.up N) (he:∀a b q,e (N+a) b q=some (N+a,b,q)):Aez g e N (upSt N σ)=upSt N σ:=by
 rw[Fzz (g':=fun _ _ c=>c) (e':=fun a b q=>some (a,b,q)) hg (fun a b q=>he a b q)]
 rw[Gxz (fun _ _ _=>rfl) (fun _ _ _=>rfl)]
theorem I5z {s o:Nat}:∀a b q,Azz (s+N) o (N+a) b q=(Azz s o a b q).map fun r=>(N+r.1,r.2.1,r.2.2):=fun a b q=>by
 unfold Azz
 by_cases h:a=s∧b=o
 ·rw[if_pos h,if_pos ⟨by omega,h.2⟩];rfl
 ·rw[if_neg h,if_neg (fun h'=>h ⟨by omega,h'.2⟩)];rfl
theorem HFz {s o:Nat} (h:s<N):∀a b q,Azz s o (N+a) b q=some (N+a,b,q):=fun a b q=>by
 unfold Azz;rw[if_neg (by omega)]
@[go_sem] theorem Udz {s o:Nat} (h:s<N):Aez (demC s o) (Azz s o) N (upSt N σ)=upSt N σ:=
 EKz (fun k j c=>by cases c<;>simp[CV.up,demC]<;>omega) (HFz h)
@[go_sem] theorem Ucz {s o:Nat} (h:s<N):Aez (offC s o) (Azz s o) N (upSt N σ)=upSt N σ:=
 EKz (fun k j c=>by cases c<;>simp[CV.up,offC]<;>omega) (HFz h)
@[go_sem] theorem AFfz {s o s' o':Nat} {m:Option Nat} (h:s<N):Aez (mvC s o s' o' m) (epTo s o s' o' m) N (upSt N σ)=upSt N σ:=
 EKz (fun k j c=>by
  cases c with
  |br a b q kd lo f es rows=>simp only[CV.up,mvC];rw[if_neg (by omega)]
  |ow f es rows=>simp only[CV.up,mvC];rw[if_neg (by omega)]
  |_=>rfl) (fun a b q=>by unfold epTo;rw[if_neg (by omega)])
@[go_sem] theorem ACPz {s o:Nat} {q:Path} {g:PV→PV} {f':Bool} (h:s<N):Aez (modC s o q g f') (Azz s o) N (upSt N σ)=upSt N σ:=
 EKz (fun k j c=>by
  cases c with
  |br a b q kd lo f es rows=>simp only[CV.up,modC,modL];rw[if_neg (by omega)]
  |ow f es rows=>simp only[CV.up,modC];rw[if_neg (by omega)]
  |_=>rfl) (HFz h)
@[go_sem] theorem ACOz {s o s' o':Nat} {q q':Path} (h:s<N):Aez (mvpC s o q s' o' q') (Azz s o) N (upSt N σ)=upSt N σ:=
 EKz (fun k j c=>by
  cases c with
  |br a b q kd lo f es rows=>simp only[CV.up,mvpC,mvpL];rw[if_neg (by omega)]
  |ow f es rows=>simp only[CV.up,mvpC];rw[if_neg (by omega)]
  |_=>rfl) (HFz h)
@[go_sem] theorem AAKz {s o:Nat}:Aez (demC (s+N) o) (Azz (s+N) o) N (upSt N σ)=upSt N (demote s o σ):=
 Fzz (fun k j c=>by
  cases c with
  |br a b q kd lo f es rows=>
   simp only[CV.up,demC]
   by_cases h:a=s∧b=o
   ·rw[if_pos h,if_pos ⟨by omega,h.2⟩];try rfl
   ·rw[if_neg h,if_neg fun h'=>h ⟨by omega,h'.2⟩];try rfl
  |ow f es rows=>
   simp only[CV.up,demC]
   by_cases h:k=s∧j=o
   ·rw[if_pos h,if_pos ⟨by omega,h.2⟩];try rfl
   ·rw[if_neg h,if_neg fun h'=>h ⟨by omega,h'.2⟩];try rfl
  |_=>rfl) I5z
@[go_sem] theorem AAIz {s o:Nat}:Aez (offC (s+N) o) (Azz (s+N) o) N (upSt N σ)=upSt N (off s o σ):=
 Fzz (fun k j c=>by
  cases c with
  |br a b q kd lo f es rows=>
   simp only[CV.up,offC]
   by_cases h:a=s∧b=o
   ·rw[if_pos h,if_pos ⟨by omega,h.2⟩];try rfl
   ·rw[if_neg h,if_neg fun h'=>h ⟨by omega,h'.2⟩];try rfl
  |ow f es rows=>
   simp only[CV.up,offC]
   by_cases h:k=s∧j=o
   ·rw[if_pos h,if_pos ⟨by omega,h.2⟩];try rfl
   ·rw[if_neg h,if_neg fun h'=>h ⟨by omega,h'.2⟩];try rfl
  |_=>rfl) I5z
@[go_sem] theorem AAJz {s o:Nat} {q:Path} {g:PV→PV} {f':Bool}:Aez (modC (s+N) o q g f') (Azz (s+N) o) N (upSt N σ)=upSt N (modS s o q g f' σ):=
 Fzz (fun k j c=>by
  cases c with
  |br a b q' kd lo f es rows=>
   simp only[CV.up,modC,modL]
   by_cases h:a=s∧b=o
   ·rw[if_pos h,if_pos ⟨by omega,h.2⟩]
    by_cases hk:kd=0
    ·rw[if_pos hk,if_pos hk]
     cases strip q' q with
     |none=>rfl
     |some r=>
      simp only
      cases modP g r (.o es rows)<;>rfl
    ·rw[if_neg hk,if_neg hk];try rfl
   ·rw[if_neg h,if_neg fun h'=>h ⟨by omega,h'.2⟩];try rfl
  |ow f es rows=>
   simp only[CV.up,modC]
   by_cases h:k=s∧j=o
   ·rw[if_pos h,if_pos ⟨by omega,h.2⟩]
    cases modP g q (.o es rows)<;>rfl
   ·rw[if_neg h,if_neg fun h'=>h ⟨by omega,h'.2⟩];try rfl
  |_=>rfl) I5z
theorem Gyz {g:Nat→Nat→CV→CV} {e:EpMap}:∀(n k:Nat) (ρ:St),(Aez g e k ρ).drop n=Aez g e (k+n) (ρ.drop n)
 |0,k,ρ=>rfl
 |n+1,k,[]=>rfl
 |n+1,k,x::ρ=>by
  simp only[Aez,List.drop_succ_cons,Gyz n (k+1) ρ]
  congr 1;omega
def Tail (N:Nat) (ρ σ:St):Prop:=N≤ρ.length∧ρ.drop N=upSt N σ
theorem Tail.dem {ρ:St} {d j:Nat} (h:Tail N ρ σ) (hd:d<N):Tail N (demote d j ρ) σ:=by
 refine⟨by unfold demote;rw[Arz];exact h.1,?_⟩
 unfold demote
 rw[Gyz,h.2,Nat.zero_add,Udz hd]
theorem Tail.demAll {d:Nat} (hd:d<N):∀{n j:Nat} {ρ:St},Tail N ρ σ→Tail N (Abz d j n ρ) σ
 |0,j,ρ,h=>h
 |n+1,j,ρ,h=>by
  unfold Abz
  refine Tail.demAll hd ?_
  split
  ·exact h.dem hd
  ·exact h
theorem Tail.set {ρ:St} {d:Nat} {v:SV} (h:Tail N ρ σ) (hd:d<N):Tail N (ρ.set d v) σ:=by
 refine⟨by rw[List.length_set];exact h.1,?_⟩
 rw[List.drop_set,if_pos hd]
 exact h.2
theorem Tail.cut {ρ:St} {d:Nat} (h:Tail N ρ σ) (hd:d<N):Tail N (ρ.map (SV.cut d)) σ:=by
 refine⟨by rw[List.length_map];exact h.1,?_⟩
 rw[←List.map_drop,h.2]
 unfold upSt
 rw[List.map_map]
 congr 1
 funext x
 cases x with
 |bp s o=>simp only[Function.comp,SV.up,SV.cut];rw[if_neg (by omega)]
 |fn g caps=>
  simp only[Function.comp,SV.up,SV.cut]
  rw[if_neg]
  simp
  intro x _;omega
 |_=>rfl
theorem Tail.clear {ρ:St} {d:Nat} (h:Tail N ρ σ) (hd:d<N):Tail N (clear d ρ) σ:=by
 unfold R.clear
 split
 ·exact((h.demAll hd).cut hd).set hd
 ·exact h.demAll hd
 ·exact h
theorem Tail.tidy:∀{ds:List Nat} {ρ:St},Tail N ρ σ→Tail N (tidy N ds ρ) σ
 |[],ρ,h=>h
 |d::ds,ρ,h=>by
  unfold R.tidy
  refine Tail.tidy ?_
  split
  ·rename_i hd
   exact(h.clear hd).set hd
  ·exact h
theorem XCz {x:SV}:(x.up N).dn N=x:=by
 have hc:∀c:CV,(c.up N).dn N=c:=fun c=>by
  cases c with
  |br s o q kd lo f es rows=>simp[CV.up,CV.dn]
  |_=>rfl
 cases x with
 |c sh l=>
  have:(CV.dn N∘CV.up N)=id:=by funext c;exact hc c
  simp[SV.up,SV.dn,this]
 |bp s o=>simp[SV.up,SV.dn]
 |ep s o q kd fl es i f row=>simp[SV.up,SV.dn]
 |fn g caps=>
  have:((fun x=>x - N)∘fun x=>N+x)=id:=by funext x;simp
  simp[SV.up,SV.dn,this]
 |_=>rfl
theorem Tail.dn {ρ:St} (h:Tail N ρ σ):dnSt N ρ=σ:=by
 unfold dnSt
 rw[h.2]
 unfold upSt
 rw[List.map_map]
 have:(SV.dn N∘SV.up N)=id:=by funext x;exact XCz
 rw[this,List.map_id]
theorem Tail.put {ρ:St} {d:Nat} {v:SV} (h:Tail N ρ σ):Tail N (ρ.set (N+d) (v.up N)) (σ.set d v):=by
 refine⟨by rw[List.length_set];exact h.1,?_⟩
 rw[List.drop_set,if_neg (by omega),h.2,show N+d - N=d by omega]
 unfold upSt
 rw[List.map_set]
theorem Tail.get {ρ:St} {d:Nat} (h:Tail N ρ σ):ρ.getD (N+d) .undef=(σ.getD d .undef).up N:=by
 rw[←Lnz,←h.2,List.getD_eq_getElem?_getD,List.getD_eq_getElem?_getD,List.getElem?_drop]
theorem Nyz {ρ:St} {d:Nat} (h:plain (ρ.getD d .undef)=true):clear d ρ=ρ:=by
 rw[KBz]
 have hd:∀(l:List CV) (j:Nat),(l.all fun c=> !c.isOw)=true→demL d j l ρ=ρ:=by
  intro l
  induction l with
  |nil=>intro j _;rfl
  |cons c l ih=>
   intro j h
   simp only[List.all_cons,Bool.and_eq_true,Bool.not_eq_true']at h
   simp only[demL,h.1,Bool.false_eq_true,if_false]
   exact ih _ h.2
 unfold BSz
 split
 ·rename_i l e;rw[e]at h;simp[plain]at h
 ·rename_i sh l hs e
  rw[e]at h
  cases sh with
  |box=>exact absurd rfl hs
  |_=>exact hd l 0 h
 ·rfl
theorem Jxz {T:Tys} {d:Nat} {rs:List ResultVar} {τ τ2:St} {sh:List (Bool×Nat)} {cs cs0:List CV} (hτ:Tail N τ σ) (hd:d<σ.length) (hp:plain (σ.getD d .undef)=true)
  (hr:BDz T true N (N+d) 0 rs (τ.set (N+d) .undef)=some (τ2,sh,cs)) (h2:Tail N τ2 (σ.set d .undef)) (hc:cs=cs0.map (CV.up N)):
  EYz T N d rs τ=some (σ.set d (.c (A9z sh) cs0),.c (A9z sh) cs0):=by
 have hw:wipe (N+d) τ=τ.set (N+d) .undef:=by
  unfold wipe
  rw[Nyz]
  rw[hτ.get,R0z];exact hp
 unfold EYz
 rw[hw,hr]
 simp only[Option.map_some]
 have hV:SV.c (A9z sh) cs=(SV.c (A9z sh) cs0).up N:=by rw[hc];rfl
 have h3:Tail N (tidy N (List.range N) (τ2.set (N+d) (SV.c (A9z sh) cs))) (σ.set d (.c (A9z sh) cs0)):=by
  rw[hV]
  have:=(h2.put (d:=d) (v:=SV.c (A9z sh) cs0)).tidy (ds:=List.range N)
  rwa[List.set_set]at this
 rw[h3.dn]
 rw[List.getD_eq_getElem?_getD,List.getElem?_set_self hd]
 rfl
theorem Ifz {g1 g2 g:Nat→CV→CV} (h:∀j c,g2 j (g1 j c)=g j c):∀(j:Nat) (l:List CV),Acz g2 j (Acz g1 j l)=Acz g j l
 |_,[]=>rfl
 |j,c::l=>by simp only[Acz,h,Ifz h]
theorem E9z {g1 g2 g:Nat→Nat→CV→CV} {e1 e2 e:EpMap} (h:∀k j c,g2 k j (g1 k j c)=g k j c) (he:∀a b q,(e1 a b q).bind (fun r=>e2 r.1 r.2.1 r.2.2)=e a b q):∀(k:Nat) (σ:St),Aez g2 e2 k (Aez g1 e1 k σ)=Aez g e k σ
 |_,[]=>rfl
 |k,x::l=>by
  simp only[Aez,E9z h he]
  congr 1
  cases x with
  |c sh l=>simp only[SV.mapC,Ifz (h k)]
  |ep s o q kd fl es i f row=>
   have:=he s o q
   simp only[SV.mapC]
   cases h1:e1 s o q with
   |none=>rw[h1]at this;simp only[Option.bind_none]at this;rw[←this]
   |some r=>obtain⟨a,b,c⟩:=r;rw[h1]at this;simp only[Option.bind_some]at this;rw[←this]
  |_=>rfl
@[go_sem] theorem AOz {s o a b:Nat} {q:Path} {g:PV→PV} {f':Bool}:AAz (modS s o q g f' σ) a b=modC s o q g f' a b (AAz σ a b):=by
 unfold modS
 rcases HGz (modC s o q g f') (Azz s o) σ a b (Hsz s o q g f' a b)with h|⟨h1,h2⟩
 ·exact h
 ·rw[h2]
  have:AAz (Aez (modC s o q g f') (Azz s o) 0 σ) a b= .dead:=by
   unfold AAz
   rw[List.getD_eq_getElem?_getD,BKz]
   cases hx:σ[a]? with
   |none=>rfl
   |some x=>
    cases x with
    |c sh l=>exact absurd hx (h1 sh l)
    |ep s1 o1 q1 kd fl es i f row=>
     simp only[Option.map_some,Option.getD_some,SV.mapC]
     cases Azz s o s1 o1 q1<;>rfl
    |_=>rfl
  rw[this];rfl
@[go_sem] theorem Bfz {s o:Nat} {q:Path} {g:PV→PV} {f':Bool}:(modS s o q g f' σ).length=σ.length:=by unfold modS;exact Arz _ _ _ _
@[go_sem] theorem VXz {s o a b:Nat} {q:Path} {g:PV→PV} {f':Bool}:AAz (Aez (modC s o q g f') (Azz s o) 0 σ) a b=modC s o q g f' a b (AAz σ a b):=AOz
@[go_sem] theorem Xjz {s o:Nat} {q:Path} {g:PV→PV} {f':Bool}:(Aez (modC s o q g f') (Azz s o) 0 σ).length=σ.length:=Bfz
theorem AJz {s o d:Nat} {q:Path} {g:PV→PV} {f':Bool} (h:plain (σ.getD d .undef)=true):plain ((modS s o q g f' σ).getD d .undef)=true:=by
 unfold modS
 rw[List.getD_eq_getElem?_getD,BKz]
 rw[List.getD_eq_getElem?_getD]at h
 cases hx:σ[d]? with
 |none=>rfl
 |some x=>
  rw[hx]at h
  have hm:∀(l:List CV) (j:Nat),(l.all fun c=> !c.isOw)=true→((Acz (modC s o q g f' (0+d)) j l).all fun c=> !c.isOw)=true:=by
   intro l
   induction l with
   |nil=>intro j _;rfl
   |cons c l ih=>
    intro j h
    simp only[List.all_cons,Bool.and_eq_true,Bool.not_eq_true']at h
    simp only[Acz,List.all_cons,Bool.and_eq_true,Bool.not_eq_true']
    exact⟨Tbz s o q g f' _ _ c h.1,by simpa using ih (j+1) (by simpa using h.2)⟩
  simp only[Option.map_some,Option.getD_some]at h ⊢
  cases x with
  |c sh l=>
   cases sh with
   |box=>simp[plain]at h
   |one=>first|exact hm l 0 h|(have:=hm l 0 h;simpa using this)
   |agg=>first|exact hm l 0 h|(have:=hm l 0 h;simpa using this)
   |tup _=>first|exact hm l 0 h|(have:=hm l 0 h;simpa using this)
  |ep s1 o1 q1 kd fl es i f row=>
   simp only[SV.mapC]
   cases Azz s o s1 o1 q1<;>rfl
  |_=>rfl
theorem QPz {s o es:Nat} {f1 f2:Bool} {r1 r2:List (List PV)} (h:r1.length=r2.length):modS s o [] (AHz es r2) f2 (modS s o [] (AHz es r1) f1 σ)=modS s o [] (AHz es r2) (f1||f2) σ:=by
 unfold modS
 refine E9z (fun k j c=> ?_) (fun a b q=> ?_) 0 σ
 ·cases c with
  |ow f es1 rows=>
   simp only[modC]
   by_cases hk:k=s∧j=o
   ·simp only[if_pos hk,BWz,AHz]
    by_cases hc:es1=es∧rows.length=r1.length
    ·rw[if_pos hc,if_pos ⟨hc.1,hc.2.trans h⟩]
     simp only[owBy,modC,if_pos hk,BWz,AHz]
     rw[if_pos ⟨hc.1,h⟩,Bool.or_assoc]
    ·rw[if_neg hc,if_neg fun h'=>hc ⟨h'.1,h'.2.trans h.symm⟩]
     rfl
   ·simp only[if_neg hk,modC]
  |br a b q' kd lo f es1 rows=>
   simp only[modC,modL]
   by_cases hk:a=s∧b=o
   ·simp only[if_pos hk]
    by_cases h0:kd=0
    ·simp only[if_pos h0]
     cases q' with
     |nil=>
      simp only[strip,BWz,AHz]
      by_cases hc:es1=es∧rows.length=r1.length
      ·rw[if_pos hc,if_pos ⟨hc.1,hc.2.trans h⟩]
       simp only[brBy,modC,modL,if_pos hk,if_true,strip,BWz,AHz]
       rw[if_pos ⟨hc.1,h⟩,Bool.or_assoc]
      ·rw[if_neg hc,if_neg fun h'=>hc ⟨h'.1,h'.2.trans h.symm⟩]
       rfl
     |cons a q=>rfl
    ·simp only[if_neg h0]
   ·simp only[if_neg hk,modC,modL]
  |_=>rfl
 ·unfold Azz
  by_cases hk:a=s∧b=o
  ·simp[hk]
  ·simp[hk]
structure At (s o es d:Nat) (σ0 σ:St) (rows:List (List PV)):Prop where
 cell:AAz σ s o= .ow false es rows
 len:σ.length=σ0.length
 pl:plain (σ.getD d .undef)=true
 to:∀r:List (List PV),r.length=rows.length→modS s o [] (AHz es r) false σ=modS s o [] (AHz es r) false σ0
theorem At.refl {s o es d:Nat} {rows:List (List PV)} (h:AAz σ s o= .ow false es rows) (hp:plain (σ.getD d .undef)=true):At s o es d σ σ rows:=⟨h,rfl,hp,fun _ _=>rfl⟩
theorem At.step {s o es d:Nat} {σ0:St} {rows r:List (List PV)} (h:At s o es d σ0 σ rows) (hr:r.length=rows.length):At s o es d σ0 (modS s o [] (AHz es r) false σ) r where
 cell:=by
  rw[AOz,h.cell,Iyz,if_pos ⟨rfl,rfl⟩,BWz,P5z,if_pos ⟨rfl,hr.symm⟩];rfl
 len:=by rw[Bfz,h.len]
 pl:=AJz h.pl
 to:=fun r' hr'=>by
  rw[QPz hr'.symm]
  exact h.to r' (hr'.trans hr)
theorem Tail.cell {ρ:St} {s o:Nat} (h:Tail N ρ σ):AAz ρ (s+N) o=(AAz σ s o).up N:=by
 rw[←Rez]
 unfold AAz
 rw[←h.2,List.getD_eq_getElem?_getD,List.getD_eq_getElem?_getD,List.getElem?_drop,Nat.add_comm]
theorem M6z {s o d:Nat} {v:SV} (hp:plain (σ.getD d .undef)=true) (hc:(AAz σ s o).isOw=true):AAz (σ.set d v) s o=AAz σ s o:=by
 have hne:s≠d:=fun e=>by
  subst e
  unfold AAz at hc
  generalize σ.getD s .undef=x at hp hc
  cases x with
  |c sh l=>
   have h1:∀l:List CV,(l.all fun c=> !c.isOw)=true→(l.getD o .dead).isOw=true→False:=fun l h1 h2=>by
    rw[List.getD_eq_getElem?_getD]at h2
    cases hx:l[o]? with
    |none=>rw[hx]at h2;simp[CV.isOw]at h2
    |some c=>
     rw[hx]at h2
     have:=List.all_eq_true.1 h1 c (List.mem_of_getElem? hx)
     simp at h2;simp[h2]at this
   cases sh with
   |box=>simp[plain]at hp
   |_=>exact h1 l hp hc
  |_=>simp[CV.isOw]at hc
 unfold AAz
 rw[List.getD_eq_getElem?_getD,List.getD_eq_getElem?_getD,List.getElem?_set_ne (Ne.symm hne)]
end
end Go.Proofs.YtblelojdboefjaaGreatDoor.R
