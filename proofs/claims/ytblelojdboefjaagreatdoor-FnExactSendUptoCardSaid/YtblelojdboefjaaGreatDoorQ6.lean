/- The evaluator's calls are the machine's. -/
import Derived.Carry
import Derived.ChangeShapes
import Derived.WideShapes
import Derived.Below
import Derived.KernelRfl
import Derived.Laws.Externs
import Derived.Lib.Bytealg
import Derived.Test.YtblelojdboefjaaGreatDoorQ5
set_option linter.all false
namespace Go.Proofs.YtblelojdboefjaaGreatDoor.R
open Go
def Ctx.ret (X:Ctx) (d N m:Nat):Ctx:=
 {X with own:=fun b=>match X.own b with
   |some (s,p,t)=>if s=d then some (0,p,t)else if N≤s∧s<N+m then some (s - N+1,p,t)else none
   |none=>none}
theorem ETz {X:Ctx} {d N m b:Nat} {t:Own} (h:(X.ret d N m).own b=some t):(∃p u,X.own b=some (d,p,u)∧t=(0,p,u))∨∃s p u,X.own b=some (s,p,u)∧s≠d∧N≤s∧s<N+m∧t=(s - N+1,p,u):=by
 simp only[Ctx.ret]at h
 cases e:X.own b with
 |none=>simp[e]at h
 |some x=>
  obtain⟨s,p,u⟩:=x
  simp only[e]at h
  split at h
  ·rename_i h1;subst h1;injection h with h;exact .inl ⟨p,u,rfl,h.symm⟩
  ·rename_i h1
   split at h
   ·rename_i h2;injection h with h;exact .inr ⟨s,p,u,rfl,h1,h2.1,h2.2,h.symm⟩
   ·simp at h
theorem Trz (X:Ctx) (d N m:Nat):Goes X (X.ret d N m):=
 ⟨rfl,rfl,rfl,Nat.le_refl _,fun _ _ _=>rfl,rfl,fun _ h=>h,fun _ h=> .inl h,fun b h=> .inl fun e=>h (by simp[Ctx.ret,e])⟩
theorem Tsz {X X':Ctx} (hw:X'.w=X.w) (hV:∀f b,X.V f b→X'.V f b) {k s j:Nat} (ht:∀b p u,X.own b=some (k,p,u)→X'.own b=some (s,p,u)) {v:Value} {c:CV} (hb:noBr c=true) (h:CVRel X k j v c):CVRel X' s j v c:=by
 cases h with
 |sh f p v h=>exact .sh f p v (h.mono fun b hb=>⟨hV f b hb,by rw[hw]⟩)
 |ow0 f es a=>exact .ow0 f es a
 |ow f es rows v blk off cap c elem fr h=>exact .ow f es rows v blk off cap c elem fr ⟨h.val,h.le,ht _ _ _ h.own,by rw[hw];exact h.cells,h.fits,h.loose,h.reads.mono (fun b hb=>⟨hV f b hb,by rw[hw]⟩) fun b q base tip ho=>⟨ht _ _ _ ho,by rw[hw]⟩⟩
 |br0=>simp[noBr]at hb
 |br=>simp[noBr]at hb
 |brv=>simp[noBr]at hb
 |dead v=>exact .dead v
theorem IMz {X X':Ctx} (hw:X'.w=X.w) (hV:∀f b,X.V f b→X'.V f b) {k s:Nat} (ht:∀b p u,X.own b=some (k,p,u)→X'.own b=some (s,p,u)):∀{j:Nat} {vs:List Value} {l:List CV},(∀c∈l,noBr c=true)→CellsRel X k j vs l→CellsRel X' s j vs l
 |j,[],[],hb,.nil _=> .nil j
 |j,v::vs,c::l,hb,.cons _ _ _ _ _ h t=> .cons j v c vs l (Tsz hw hV ht (hb c (by simp)) h) (IMz hw hV ht (fun c hc=>hb c (by simp[hc])) t)
theorem Tqz {X:Ctx} {vs:List Value} {σ:St} {E:Nat→Nat→Prop} (hg:Good X vs σ E) {d N:Nat} {gv:List Value} (hd:σ.length=d) (hv:vs.drop N=gv) (hNl:N+gv.length=σ.length) {cells:List CV} (hE:∀a b,E a b→a=d∧b<cells.length) {v:Value} {sh:Shape} {us:List Value} (hfl:Flat sh v us)
  (hc:CellsRel X d 0 us cells) (hsol:∀c∈cells,noBr c=true) (htag:∀(p:Nat) (c:CV),cells[p]? =some c→c.isOw=false→Free X d p) {ms:List (List CV)} (hm:Bwz σ ((List.range gv.length).map (N+ ·))=some ms) (hms:ms.all (·.all noBr)=true):
  Good (X.ret d N gv.length) (v::gv) (.c sh cells::ms.map (.c .box)) NoE:=by
 obtain⟨hl,hget⟩:=DVz hm
 simp only[List.length_map,List.length_range]at hl
 have hslot:∀(g:Nat) (b:List CV),ms[g]? =some b→σ[N+g]? =some (.c .box b):=fun g b h=>by
  have hlt:g<gv.length:=by rw[←hl];exact(List.getElem?_eq_some_iff.1 h).1
  exact hget g (N+g) b (by simp[hlt]) h
 have hVV:∀f b,X.V f b→(X.ret d N gv.length).V f b:=fun f b h=>h
 refine⟨⟨fun b t h=> ?_,fun b b' s p q base tip base' tip' h h'=> ?_,hg.inv.vs,hg.inv.va⟩,⟨by simp[hl],fun k u sv hu hs=> ?_⟩,fun b s p q base tip h=> ?_,fun b s q base tip h=> ?_⟩
 ·rcases ETz h with⟨p,u,h1,_⟩|⟨s,p,u,h1,_⟩<;>exact hg.inv.own b _ h1
 ·rcases ETz h with⟨p1,u1,h1,e1⟩|⟨s1,p1,u1,h1,n1,n2,n3,e1⟩
  ·rcases ETz h' with⟨p2,u2,h2,e2⟩|⟨s2,p2,u2,h2,m1,m2,m3,e2⟩
   ·injection e1 with _ e1;injection e1 with e1 e3;injection e2 with _ e2;injection e2 with e2 e4
    subst e1;subst e2;subst e3;subst e4
    exact hg.inv.one _ _ _ _ _ _ _ _ _ h1 h2
   ·injection e1 with e1 _;injection e2 with e2 _;omega
  ·rcases ETz h' with⟨p2,u2,h2,e2⟩|⟨s2,p2,u2,h2,m1,m2,m3,e2⟩
   ·injection e1 with e1 _;injection e2 with e2 _;omega
   ·injection e1 with e1 e3;injection e3 with e3 e5;injection e2 with e2 e4;injection e4 with e4 e6
    have:s1=s2:=by omega
    subst this;subst e3;subst e4;subst e5;subst e6
    exact hg.inv.one _ _ _ _ _ _ _ _ _ h1 h2
 ·cases k with
  |zero=>
   simp at hu hs
   subst hu;subst hs
   exact .c sh _ us cells hfl (IMz (X:=X) (X':=X.ret d N gv.length) rfl hVV (fun b p u h=>by simp[Ctx.ret,h]) hsol hc)
  |succ k=>
   simp only[List.getElem?_cons_succ]at hu hs
   rw[List.getElem?_map]at hs
   obtain⟨b,hb,rfl⟩:=AHz hs
   have hlt:k<gv.length:=by rw[←hl];exact(List.getElem?_eq_some_iff.1 hb).1
   have hu':vs[N+k]? =some u:=by rw[←hu,←hv,List.getElem?_drop]
   obtain⟨blk,base,tip,c,elem,fr,e1,ho,hbk,hfr,hcr⟩:=Eaz (hg.frame.2 (N+k) u _ hu' (hslot k b hb))
   subst e1
   have hown:∀b p u,X.own b=some (N+k,p,u)→(X.ret d N gv.length).own b=some (k+1,p,u):=fun b p u h=>by
    simp only[Ctx.ret,h]
    rw[if_neg (by omega),if_pos (by omega)]
    congr 2;omega
   exact .box blk base tip c elem fr b (hown _ _ _ ho) hbk hfr (IMz (X:=X) (X':=X.ret d N gv.length) rfl hVV hown (List.all_eq_true.1 (List.all_eq_true.1 hms b (List.mem_of_getElem? hb))) hcr)
 ·right
  rcases ETz h with⟨p1,u1,h1,e1⟩|⟨s1,p1,u1,h1,n1,n2,n3,e1⟩
  ·injection e1 with e1 e3;injection e3 with e3 _
   subst e1;subst e3
   rw[Blz (sh:=sh) (l:=cells) rfl]
   have hp:p<cells.length:=by
    rcases hg.tags.cell b d p u1.1 u1.2.1 u1.2.2 h1 with h2|h2
    ·exact(hE _ _ h2).2
    ·rw[Cwz fun sh l e=>by rw[List.getElem?_eq_none (by omega)]at e;simp at e]at h2
     simp[CV.isOw]at h2
   have e2:cells[p]? =some cells[p]:=List.getElem?_eq_getElem hp
   rw[List.getD_eq_getElem?_getD,e2]
   cases hh:(cells[p]).isOw with
   |true=>exact hh
   |false=>exact absurd h1 (htag p _ e2 hh b u1.1 u1.2.1 u1.2.2)
  ·injection e1 with e1 e3;injection e3 with e3 _
   subst e1;subst e3
   have hlt:s1 - N<ms.length:=by omega
   have e2:ms[s1 - N]? =some ms[s1 - N]:=List.getElem?_eq_getElem hlt
   have h3:=hslot _ _ e2
   rw[show N+(s1 - N)=s1 from by omega]at h3
   have h2:=(hg.tags.cell b s1 p u1.1 u1.2.1 u1.2.2 h1).resolve_left fun e=>n1 (hE _ _ e).1
   rw[Blz h3]at h2
   rw[Blz (sh:= .box) (l:=ms[s1 - N]) (by simp[e2])]
   exact h2
 ·rcases ETz h with⟨p1,u1,h1,e1⟩|⟨s1,p1,u1,h1,n1,n2,n3,e1⟩
  ·injection e1 with e1 e3;injection e3 with e3 _
   subst e1;subst e3
   obtain⟨l,h2⟩:=hg.tags.box b d u1.1 u1.2.1 u1.2.2 h1
   rw[List.getElem?_eq_none (by omega)]at h2;simp at h2
  ·injection e1 with e1 e3;injection e3 with e3 _
   subst e1;subst e3
   have hlt:s1 - N<ms.length:=by omega
   exact⟨ms[s1 - N],by simp[List.getElem?_eq_getElem hlt]⟩
def I8z (P:Program) (E:Env):Prop:=∀f fn,E.fns f=some fn→P.funcs[f]? =some fn∧(fn.name== "runtime.NumGoroutine")=false
def LCz (P:Program) (E:Env):Prop:=∀f g call,E.orc f=some g→Bvz P call→∀args bs r,g call args bs=some r→∃N,args.length≤N∧
 ∀(X:Ctx) (argv gv:List Value),argv.length=args.length→Good X (argv++List.replicate (N - args.length) undef++gv) (args.map (Biz N)++List.replicate (N - args.length) .undef++bs.map (.c .box)) NoE→
  Lands P f argv.toArray X.w fun v w'=>∃X',X'.w=w'∧Goes X X'∧Good X' (v::gv) (r.res::r.boxes.map (.c .box)) NoE
theorem GPz {P:Program} {f:FuncId} {fn:Func} (hf:P.funcs[f]? =some fn) (hn:(fn.name== "runtime.NumGoroutine")=false) {c:Code} (hb:fn.body=some c) (args:Array Value) (w:World):(callFunc f args).run P w= .ok (.enter f args) w:=by
 have hn':fn.name≠ "runtime.NumGoroutine" :=by simpa using hn
 simp[callFunc,hf,hn',hb]
theorem Psz {vals:List Value} {fs:List (List Value)} {shapes:List (Bool×Nat)} (hn:vals.length=shapes.length∧fs.length=shapes.length)
  (h:∀(i:Nat) (v:Value) (a:Bool) (n:Nat) (f:List Value),vals[i]? =some v→shapes[i]? =some (a,n)→fs[i]? =some f→f.length=n∧((a=true∧∃cs:Array Value,v= .agg cs∧f=cs.toList)∨(a=false∧f=[v]∧∀cs,v≠ .agg cs))):
  Flat (BCz shapes) (if h:vals.toArray.size=1 then vals.toArray[0]else .tuple vals.toArray) fs.flatten:=by
 by_cases h1:shapes.length=1
 ·obtain⟨⟨a,n⟩,rfl⟩:=List.length_eq_one_iff.1 h1
  obtain⟨v,rfl⟩:=List.length_eq_one_iff.1 (hn.1.trans h1)
  obtain⟨f,rfl⟩:=List.length_eq_one_iff.1 (hn.2.trans h1)
  obtain⟨h2,h3⟩:=h 0 v a n f rfl rfl rfl
  simp only[List.flatten_cons,List.flatten_nil,List.append_nil]
  rcases h3 with⟨rfl,cs,rfl,rfl⟩|⟨rfl,rfl,hna⟩
  ·exact .agg cs
  ·exact .one v hna
 ·have hs:BCz shapes= .tup shapes:=by
   match shapes,h1 with
   |[],_=>rfl
   |[x],h1=>exact absurd rfl h1
   |x::y::l,_=>
    obtain⟨a,n⟩:=x
    cases a<;>rfl
  rw[hs,dif_neg (by simp;omega)]
  exact .tup shapes vals.toArray fs hn.2 (by simpa using hn.1) fun i v a n f hv=>h i v a n f (by simpa using hv)
theorem MOz {X X':Ctx} {σ:St} (H:∀k p v c,Firm σ k p c→CVRel X k p v c→CVRel X' k p v c) {d:Nat} (hd:∀p,(ABz σ d p).isOw=false):∀{j:Nat} {vs:List Value} {l:List CV},(∀c∈l,noBr c=true)→CellsRel X d j vs l→CellsRel X' d j vs l
 |j,[],[],hb,.nil _=> .nil j
 |j,v::vs,c::l,hb,.cons _ _ _ _ _ h t=>by
  refine .cons j v c vs l (H d j v c ?_ h) (MOz H hd (fun c hc=>hb c (by simp[hc])) t)
  cases c with
  |sh f p=>trivial
  |dead=>trivial
  |ow f es rows=>exact hd j
  |br a b q kd lo f es rows=>have:=hb _ (List.mem_cons_self ..);simp[noBr]at this
theorem KKz {P:Program} {fn:Func} {tmps:Array Value} {w:World} {vals:List Value} (hvl:fn.results.toList.length=vals.length) (hvals:∀(i:Nat) (x:ResultVar) (v:Value),fn.results.toList[i]? =some x→vals[i]? =some v→(Frz tmps x).run P w= .ok v w):
  (results fn tmps).run P w= .ok (if h:vals.toArray.size=1 then vals.toArray[0]else .tuple vals.toArray) w:=by
 let g:ResultVar→Value:=fun x=>match(Frz tmps x).run P w with
  | .ok v _=>v
  |_=>undef
 have hg2:∀(i:Nat) (x:ResultVar) (v:Value),fn.results.toList[i]? =some x→vals[i]? =some v→g x=v:=fun i x v hx hv=>by
  simp only[g,hvals i x v hx hv]
 have hmap:fn.results.map g=vals.toArray:=by
  apply Array.ext'
  simp only[Array.toList_map]
  apply List.ext_getElem?
  intro i
  rw[List.getElem?_map]
  cases hx:fn.results.toList[i]? with
  |none=>
   have:vals.length≤i:=by rw[←hvl];exact List.getElem?_eq_none_iff.1 hx
   rw[List.getElem?_eq_none this];rfl
  |some x=>
   have hlt:i<vals.length:=by rw[←hvl];exact(List.getElem?_eq_some_iff.1 hx).1
   have e1:vals[i]? =some vals[i]:=List.getElem?_eq_getElem hlt
   rw[e1,Option.map_some,hg2 i x _ hx e1]
 have hgx:∀x∈fn.results,(Frz tmps x).run P w= .ok (g x) w:=fun x hx=>by
  obtain⟨i,hi,e1⟩:=List.getElem_of_mem (Array.mem_toList_iff.2 hx)
  have e2:fn.results.toList[i]? =some x:=by rw[List.getElem?_eq_getElem hi,e1]
  have hlt:i<vals.length:=by rw[←hvl];exact hi
  have e3:vals[i]? =some vals[i]:=List.getElem?_eq_getElem hlt
  rw[hvals i x _ e2 e3,hg2 i x _ e2 e3]
 simp only[results,Sem.run_bind]
 rw[Lxz (g:=g)]
 ·rw[hmap];rfl
 ·intro x hx
  have:=hgx x hx
  cases x<;>exact this
def Leaves (T:Tys) (fn:Func) (nb:Nat) (σ1:St) (r:Ret):Prop:=
 ∃q σ m,BGz T false fn.ntmps σ1.length 0 fn.results.toList σ1=some q∧settles ((List.range nb).map (fn.ntmps+ ·)) q.1=some σ∧Bwz σ ((List.range nb).map (fn.ntmps+ ·))=some m∧m.all (·.all noBr)=true∧r=⟨.c (BCz q.2.1) q.2.2,m⟩
theorem P5z {P:Program} {T:Tys} (hT:TOk P T) {f:FuncId} {fn:Func} {code:Code} (hfn:P.funcs[f]? =some fn) (hname:(fn.name== "runtime.NumGoroutine")=false) (hb:fn.body=some code) {args:List SV} {bs:List (List CV)} {r:Ret} (hlen:args.length≤fn.ntmps)
  (hcode:∀(gv:List Value) (X:Ctx) (a:Act) (Q:Exit→Act→World→Prop),Good X (All a gv) (args.map (Biz fn.ntmps)++List.replicate (fn.ntmps - args.length) .undef++bs.map (.c .box)) NoE→fn.ntmps=a.tmps.size→
   (∀ex σ1 a' X',(ex=Ex.normal∨ex=Ex.ret)→Leaves T fn bs.length σ1 r→Goes X X'→Good X' (All a' gv) σ1 NoE→a'.tmps.size=fn.ntmps→a'.defers=a.defers→Q (exOf ex) a' X'.w)→code.wp P Q a X.w):
  ∃N,args.length≤N∧∀(X:Ctx) (argv gv:List Value),argv.length=args.length→Good X (argv++List.replicate (N - args.length) undef++gv) (args.map (Biz N)++List.replicate (N - args.length) .undef++bs.map (.c .box)) NoE→
   Lands P f argv.toArray X.w fun v w'=>∃X',X'.w=w'∧Goes X X'∧Good X' (v::gv) (r.res::r.boxes.map (.c .box)) NoE:=by
  refine⟨fn.ntmps,hlen,fun X argv gv hargv hgood=> ?_⟩
  have hgl:gv.length=bs.length:=by
   have:=hgood.frame.1
   simp only[List.length_append,List.length_replicate,List.length_map]at this
   omega
  unfold Lands
  rw[GPz hfn hname hb]
  simp only
  refine calls_of_wp hfn hb ?_
  let a0:Act:={tmps:=argv.toArray++Array.replicate (fn.ntmps - argv.toArray.size) undef,defers:=[]}
  have hall:All a0 gv=argv++List.replicate (fn.ntmps - args.length) undef++gv:=by
   simp[All,a0,hargv]
  have hsz:fn.ntmps=a0.tmps.size:=by simp[a0];omega
  rw[←hall]at hgood
  have hfin:∀(σ1:St) a' X1,Goes X X1→Good X1 (All a' gv) σ1 NoE→a'.tmps.size=fn.ntmps→(∀{q},BGz T false fn.ntmps σ1.length 0 fn.results.toList σ1=some q→∀{σ},settles ((List.range bs.length).map (fn.ntmps+ ·)) q.1=some σ→∀{m},Bwz σ ((List.range bs.length).map (fn.ntmps+ ·))=some m→m.all (·.all noBr)=true→
    ∃v X',(results fn a'.tmps).run P X1.w= .ok v X'.w∧Goes X X'∧Good X' (v::gv) (.c (BCz q.2.1) q.2.2::m.map (.c .box)) NoE∧X'.w=X1.w):=fun σ1 a' X1 G hg1 hs1 {q} hq {σ} hσ {m} hm' hnb=>by
   obtain⟨σ2,shapes,cells⟩:=q
   have hlen1:σ1.length=fn.ntmps+gv.length:=by
    rw[←hg1.frame.1];unfold All;rw[List.length_append,Array.length_toList,hs1]
   have hout:∀p,(ABz σ1 σ1.length p).isOw=false:=fun p=>by
    rw[Cwz fun sh l e=>by rw[List.getElem?_eq_none (Nat.le_refl _)]at e;simp at e];rfl
   obtain⟨X2,vals,fs,L,hvl,hvals⟩:=Jpz (P:=P) hT hs1.symm (d:=σ1.length) hg1 hout (fun p _=>Dzz hg1 (hout p)) hq
   obtain⟨m0,L0⟩:=L.left
   have hsol:∀c∈cells,noBr c=true:=fun c hc=>QPz (L.solid c hc)
   obtain⟨X3,k3⟩:=Fxz (All a' gv) L0.good hσ
   have hrun:=KKz (P:=P) hvl hvals
   have hcell:∀p,(ABz σ2 σ1.length p).isOw=false:=fun p=>by
    rw[Cwz fun sh l e=>by rw[List.getElem?_eq_none (by rw[L0.size];exact Nat.le_refl _)]at e;simp at e];rfl
   have hgr:=Tqz (N:=fn.ntmps) (gv:=gv) (d:=σ1.length) k3.good (by rw[k3.size,L0.size]) (by
    unfold All
    rw[List.drop_left' (by simpa using hs1)]) (by rw[k3.size,L0.size];exact hlen1.symm) (cells:=cells) (fun a b e=>by
     rcases e with e|⟨e1,_,e2⟩
     ·exact e.elim
     ·exact⟨e1,by omega⟩) (Psz L.nums L.flat) (MOz k3.firm hcell hsol L.rel) hsol (fun p c hc hno=>k3.free _ _ (by have:=L.tag p c hc hno;rwa[Nat.zero_add]at this)) (by rw[hgl];exact hm') hnb
   refine⟨_,_,?_,(G.trans L0.goes).trans (k3.goes.trans (Trz X3 _ _ _)),hgr,?_⟩
   ·rw[hrun]
    show _=Result.ok _ X3.w
    rw[k3.w,L0.w]
   ·show X3.w=X1.w
    rw[k3.w,L0.w]
  refine hcode gv X a0 _ hgood hsz fun ex σ1 a' X1 hex hL G hg1 hs1 hd1=> ?_
  obtain⟨q,σ,m,hq,hσ,hm',hnb,rfl⟩:=hL
  obtain⟨v,X',hr,G',hg',hw⟩:=hfin σ1 a' X1 G hg1 hs1 hq hσ hm' hnb
  rcases hex with rfl|rfl
  ·exact⟨hd1,v,by rw[hr,hw],X',hw,G',hg'⟩
  ·exact⟨hd1,v,by rw[hr,hw],X',hw,G',hg'⟩
def Ctx.up (X:Ctx) (N:Nat):Ctx:={X with own:=fun b=>(X.own b).map fun t=>(N+t.1,t.2)}
theorem H6z {X:Ctx} {N b s p:Nat} {u:Path×Nat×Nat} (h:X.own b=some (s,p,u)):(X.up N).own b=some (N+s,p,u):=by simp[Ctx.up,h]
theorem H7z {X:Ctx} {N b:Nat} {t:Own} (h:(X.up N).own b=some t):∃s p u,X.own b=some (s,p,u)∧t=(N+s,p,u):=by
 simp only[Ctx.up]at h
 obtain⟨⟨s,p,u⟩,h1,h2⟩:=AHz h
 exact⟨s,p,u,h1,h2.symm⟩
theorem VKz (X:Ctx) (N:Nat):Goes X (X.up N):=
 ⟨rfl,rfl,rfl,Nat.le_refl _,fun _ _ _=>rfl,rfl,fun _ h=>h,fun _ h=> .inl h,fun b h=> .inl fun e=>h (by simp[Ctx.up,e])⟩
def Ctx.dn (X:Ctx) (N:Nat):Ctx:={X with own:=fun b=>(X.own b).bind fun t=>if N≤t.1 then some (t.1 - N,t.2)else none}
theorem Ijz {X:Ctx} {N b s p:Nat} {u:Path×Nat×Nat} (h:X.own b=some (s,p,u)) (hN:N≤s):(X.dn N).own b=some (s - N,p,u):=by simp[Ctx.dn,h,hN]
theorem Ikz {X:Ctx} {N b:Nat} {t:Own} (h:(X.dn N).own b=some t):∃s p u,X.own b=some (s,p,u)∧N≤s∧t=(s - N,p,u):=by
 simp only[Ctx.dn]at h
 obtain⟨⟨s,p,u⟩,h1,h2⟩:=AAz h
 split at h2
 ·rename_i hN;injection h2 with h2;exact⟨s,p,u,h1,hN,h2.symm⟩
 ·simp at h2
theorem V1z (X:Ctx) (N:Nat):Goes X (X.dn N):=
 ⟨rfl,rfl,rfl,Nat.le_refl _,fun _ _ _=>rfl,rfl,fun _ h=>h,fun _ h=> .inl h,fun b h=> .inl fun e=>h (by simp[Ctx.dn,e])⟩
structure Rena (X X':Ctx) (k k':Nat→Prop) (ρ:Nat→Nat):Prop where
 w:X'.w=X.w
 V:∀f b,X.V f b→X'.V f b
 own:∀b s p u,k s→X.own b=some (s,p,u)→X'.own b=some (ρ s,p,u)
theorem Rena.HV {X X':Ctx} {k k':Nat→Prop} {ρ:Nat→Nat} (R:Rena X X' k k' ρ) (f:Bool):∀b,X.V f b→X'.V f b∧X'.w.heap[b]? =X.w.heap[b]? :=fun b h=>⟨R.V f b h,by rw[R.w]⟩
theorem Rena.HO {X X':Ctx} {k k':Nat→Prop} {ρ:Nat→Nat} (R:Rena X X' k k' ρ) {s:Nat} (hs:k s) (p:Nat):∀b q base tip,X.own b=some (s,p,q,base,tip)→X'.own b=some (ρ s,p,q,base,tip)∧X'.w.heap[b]? =X.w.heap[b]? :=fun b q base tip h=>⟨R.own b s p _ hs h,by rw[R.w]⟩
def CV.ren (k:Nat→Bool) (ρ:Nat→Nat):CV→CV
 | .br s o q kd lo f es rows=>if k s then .br (ρ s) o q kd lo f es rows else .dead
 |c=>c
theorem RRz (N:Nat) (c:CV):c.up N=c.ren (fun _=>true) (N+ ·):=by cases c<;>rfl
theorem Xbz (N:Nat) (c:CV):c.dn N=c.ren (fun s=>decide (N≤s)) (· - N):=by cases c<;>simp[CV.dn,CV.ren]
theorem Rena.look {X X':Ctx} {kb:Nat→Bool} {k':Nat→Prop} {ρ:Nat→Nat} (R:Rena X X' (fun s=>kb s=true) k' ρ) {s0 s0' j:Nat} {v:Value} {c:CV} (hn:∀f es rows,c= .ow f es rows→kb s0=true∧s0'=ρ s0∨rows=[]∧∃a,v= .slice a 0 0) (h:CVRel X s0 j v c):CVRel X' s0' j v (c.ren kb ρ):=by
 cases h with
 |sh f p v h=>exact .sh f p v (h.mono (R.HV f))
 |ow0 f es a=>exact .ow0 f es a
 |ow f es rows v blk off cap c elem fr h=>
  rcases hn f es rows rfl with⟨hk,rfl⟩|⟨rfl,a,rfl⟩
  ·exact .ow f es rows v blk off cap c elem fr ⟨h.val,h.le,(R.HO hk _ _ _ _ _ h.own).1,by rw[R.w];exact h.cells,h.fits,h.loose,h.reads.mono (R.HV f) (R.HO hk _)⟩
  ·exact .ow0 f es a
 |br0 s o q kd lo f es a=>
  simp only[CV.ren]
  split
  ·exact .br0 _ o q kd lo f es a
  ·exact .dead _
 |br s o q kd lo f es rows v blk base tip cap c elem fr h=>
  simp only[CV.ren]
  split
  ·rename_i hk
   exact .br _ o q kd lo f es rows v blk base tip cap c elem fr ⟨h.val,h.le,(R.HO hk _ _ _ _ _ h.own).1,by rw[R.w];exact h.cells,h.fits,h.loose,h.tipLe,h.tip1,h.lo0,h.reads.mono (R.HV f) (R.HO hk _)⟩
  ·exact .dead _
 |brv s o q lo f es rows v h=>
  simp only[CV.ren]
  split
  ·rename_i hk;exact .brv _ o q lo f es rows v (h.mono (R.HV f) (R.HO hk _))
  ·exact .dead _
 |dead v=>exact .dead v
theorem Rena.cells {X X':Ctx} {kb:Nat→Bool} {k':Nat→Prop} {ρ:Nat→Nat} (R:Rena X X' (fun s=>kb s=true) k' ρ) {s0:Nat} (hk:kb s0=true):∀{j:Nat} {vs:List Value} {l:List CV},CellsRel X s0 j vs l→CellsRel X' (ρ s0) j vs (l.map (CV.ren kb ρ))
 |_,_,_,.nil j=> .nil j
 |_,_,_,.cons j v c vs l h t=> .cons j v _ vs _ (R.look (fun _ _ _ _=> .inl ⟨hk,rfl⟩) h) (Rena.cells R hk t)
theorem Rena.vcells {X X':Ctx} {kb:Nat→Bool} {k':Nat→Prop} {ρ:Nat→Nat} (R:Rena X X' (fun s=>kb s=true) k' ρ):∀{vs:List Value} {l:List CV},VCells X vs l→VCells X' vs (l.map (CV.ren kb ρ))
 |_,_,.nil=> .nil
 |_,_,.cons v c vs l h t=> .cons v _ vs _ (fun k j=>R.look (s0:=0) (fun f es rows e=> .inr (by subst e;exact Dvz fun k=>h k 0)) (h 0 j)) (Rena.vcells R t)
theorem Rvz (X:Ctx) (N:Nat):Rena X (X.up N) (fun s=>(fun _=>true) s=true) (fun _=>True) (N+ ·):=⟨rfl,fun _ _ h=>h,fun b s p u _ h=>H6z h⟩
theorem Wyz (X:Ctx) (N:Nat):Rena X (X.dn N) (fun s=>(fun s=>decide (N≤s)) s=true) (fun _=>True) (· - N):=⟨rfl,fun _ _ h=>h,fun b s p u hk h=>Ijz h (by simpa using hk)⟩
theorem KBz {X:Ctx} {N k:Nat} {v:Value} {sv:SV} (h:SVRel X k v sv):SVRel (X.up N) (N+k) v (sv.up N):=by
 have R:=Rvz X N
 have hm:∀l:List CV,l.map (CV.up N)=l.map (CV.ren (fun _=>true) (N+ ·)):=fun l=>List.map_congr_left fun c _=>RRz N c
 cases h with
 |undef v=>exact .undef v
 |c sh v vs l hf hc=>exact .c sh v vs _ hf (by rw[hm];exact R.cells rfl hc)
 |box blk base tip c elem fr l ho hb hfr hc=>exact .box blk base tip c elem fr _ (H6z ho) hb hfr (by rw[hm];exact R.cells rfl hc)
 |bp s o blk base tip ho=>exact .bp _ o blk base tip (H6z ho)
 |ep s o q kd fl es i f row blk off base tip c elem fr ho he hl hb hfr hr=>exact .ep _ o q kd fl es i f row blk off base tip c elem fr (H6z ho) he hl hb hfr (hr.mono (R.HV fl) (R.HO rfl _))
 |epv s o q fl es i f row blk off c elem fr hv hb hr=>exact .epv _ o q fl es i f row blk off c elem fr hv hb (hr.mono (R.HV fl) (R.HO rfl _))
 |sp fl row f blk off c elem fr hv hb hr=>exact .sp fl row f blk off c elem fr hv hb hr
 |fn g caps cs hs hc=>
  refine .fn g _ cs (by simpa using hs) fun i v s h1 h2=> ?_
  rw[List.getElem?_map]at h2
  obtain⟨s0,h3,h4⟩:=AHz h2
  subst h4
  obtain⟨blk,base,tip,e,ho⟩:=hc i v s0 h1 h3
  exact⟨blk,base,tip,e,H6z ho⟩
theorem W9z {X:Ctx} {N:Nat} {v:Value} {sv:SV} (h:OSV X v sv):OSV (X.up N) v (sv.up N):=by
 have R:=Rvz X N
 intro k'
 cases sv with
 |c sh l=>
  by_cases hsh:sh= .box
  ·subst hsh
   obtain⟨b0,base0,tip0,_,_,_,e0,ho0,_⟩:=Eaz (h 0)
   obtain⟨b1,base1,tip1,_,_,_,e1,ho1,_⟩:=Eaz (h 1)
   rw[e0]at e1
   injection e1 with e1;injection e1 with e1;injection e1 with e1
   subst e1
   rw[ho0]at ho1;simp at ho1
  ·obtain⟨vs,hf,hc⟩:=CGz h hsh
   have hm:l.map (CV.up N)=l.map (CV.ren (fun _=>true) (N+ ·)):=List.map_congr_left fun c _=>RRz N c
   exact .c sh v vs _ hf (by rw[hm];exact(R.vcells hc).cells)
 |undef=>exact .undef v
 |bp s o=>have:=KBz (N:=N) (h 0);cases this with|bp _ _ blk base tip ho=>exact .bp _ o blk base tip ho
 |ep s o q kd fl es i f row=>
  have:=KBz (N:=N) (h 0)
  cases this with
  |ep _ _ _ _ _ _ _ _ _ blk off base tip c elem fr ho he hl hb hfr hr=>exact .ep _ o q kd fl es i f row blk off base tip c elem fr ho he hl hb hfr hr
  |epv _ _ _ _ _ _ _ _ blk off c elem fr hv hb hr=>exact .epv _ o q fl es i f row blk off c elem fr hv hb hr
 |sp fl row f=>have:=KBz (N:=N) (h 0);cases this with|sp _ _ _ blk off c elem fr hv hb hr=>exact .sp fl row f blk off c elem fr hv hb hr
 |fn g caps=>have:=KBz (N:=N) (h 0);cases this with|fn _ _ cs hs hc=>exact .fn g _ cs hs hc
theorem Yez {X:Ctx} {N k:Nat} {v:Value} {sv:SV} (h:SVRel X (N+k) v sv):SVRel (X.dn N) k v (sv.dn N):=by
 have R:=Wyz X N
 have hm:∀l:List CV,l.map (CV.dn N)=l.map (CV.ren (fun s=>decide (N≤s)) (· - N)):=fun l=>List.map_congr_left fun c _=>Xbz N c
 have hk:k=(N+k) - N:=by omega
 have hkb:(fun s=>decide (N≤s)) (N+k)=true:=by simp
 cases h with
 |undef v=>exact .undef v
 |c sh v vs l hf hc=>exact .c sh v vs _ hf (by rw[hm,hk];exact R.cells hkb hc)
 |box blk base tip c elem fr l ho hb hfr hc=>exact .box blk base tip c elem fr _ (by have:=Ijz ho (N:=N) (by omega);rwa[←hk]at this) hb hfr (by rw[hm,hk];exact R.cells hkb hc)
 |bp s o blk base tip ho=>
  simp only[SV.dn]
  split
  ·rename_i hN;exact .bp _ o blk base tip (Ijz ho hN)
  ·exact .undef _
 |ep s o q kd fl es i f row blk off base tip c elem fr ho he hl hb hfr hr=>
  simp only[SV.dn]
  split
  ·rename_i hN;exact .ep _ o q kd fl es i f row blk off base tip c elem fr (Ijz ho hN) he hl hb hfr (hr.mono (R.HV fl) (R.HO (by simpa using hN) _))
  ·exact .undef _
 |epv s o q fl es i f row blk off c elem fr hv hb hr=>
  simp only[SV.dn]
  split
  ·rename_i hN;exact .epv _ o q fl es i f row blk off c elem fr hv hb (hr.mono (R.HV fl) (R.HO (by simpa using hN) _))
  ·exact .undef _
 |sp fl row f blk off c elem fr hv hb hr=>exact .sp fl row f blk off c elem fr hv hb hr
 |fn g caps cs hs hc=>
  simp only[SV.dn]
  split
  ·rename_i hall
   refine .fn g _ cs (by simpa using hs) fun i v s h1 h2=> ?_
   rw[List.getElem?_map]at h2
   obtain⟨s0,h3,h4⟩:=AHz h2
   subst h4
   obtain⟨blk,base,tip,e,ho⟩:=hc i v s0 h1 h3
   have:N≤s0:=by simpa using List.all_eq_true.1 hall s0 (List.mem_of_getElem? h3)
   exact⟨blk,base,tip,e,Ijz ho this⟩
  ·exact .undef _
theorem S4z {N:Nat} {l:St} (hl:l.length=N) (σ:St) (s p:Nat):(ABz (l++upSt N σ) (N+s) p).isOw=(ABz σ s p).isOw:=by
 unfold ABz
 rw[List.getD_eq_getElem?_getD,List.getElem?_append_right (by omega),hl,show N+s - N=s from by omega]
 simp only[upSt,List.getElem?_map,List.getD_eq_getElem?_getD]
 cases σ[s]? with
 |none=>rfl
 |some x=>
  cases x with
  |c sh l=>
   simp only[Option.map_some,Option.getD_some,SV.up,List.getElem?_map]
   cases l[p]? with
   |none=>rfl
   |some c=>cases c<;>rfl
  |_=>rfl
theorem VJz {X:Ctx} {vs:List Value} {σ:St} (hg:Good X vs σ NoE) {N:Nat} {args:List Value} {svs:List SV} (hlen:args.length=svs.length) (ha:∀(i:Nat) (v:Value) (x:SV),args[i]? =some v→svs[i]? =some x→∀k,SVRel X k v x) (hN:svs.length≤N):
  Good (X.up N) (args++List.replicate (N - svs.length) undef++vs) (svs.map (SV.up N)++List.replicate (N - svs.length) .undef++upSt N σ) NoE:=by
 have hl:(svs.map (SV.up N)++List.replicate (N - svs.length) SV.undef).length=N:=by simp;omega
 refine⟨⟨fun b t h=> ?_,fun b b' s p q base tip base' tip' h h'=> ?_,hg.inv.vs,hg.inv.va⟩,⟨by simp[upSt,hlen,hg.frame.1],fun k v sv hv hs=> ?_⟩,fun b s p q base tip h=> ?_,fun b s q base tip h=> ?_⟩
 ·obtain⟨s,p,u,h1,_⟩:=H7z h;exact hg.inv.own b _ h1
 ·obtain⟨s1,p1,u1,h1,e1⟩:=H7z h
  obtain⟨s2,p2,u2,h2,e2⟩:=H7z h'
  injection e1 with e1 e3;injection e3 with e3 e5
  injection e2 with e2 e4;injection e4 with e4 e6
  have:s1=s2:=by omega
  subst this;subst e3;subst e4;subst e5;subst e6
  exact hg.inv.one _ _ _ _ _ _ _ _ _ h1 h2
 ·by_cases hk:k<svs.length
  ·rw[List.getElem?_append_left (by simp;omega),List.getElem?_append_left (by omega)]at hv
   rw[List.getElem?_append_left (by simp;omega),List.getElem?_append_left (by simpa using hk),List.getElem?_map]at hs
   obtain⟨x,hx,rfl⟩:=AHz hs
   exact W9z (ha k v x hv hx) k
  ·by_cases hk2:k<N
   ·rw[List.getElem?_append_left (by rw[hl];exact hk2),List.getElem?_append_right (by simp;omega)]at hs
    rw[List.getElem?_replicate]at hs
    split at hs
    ·injection hs with hs;subst hs;exact .undef v
    ·simp at hs
   ·rw[List.getElem?_append_right (by rw[hl];omega),hl]at hs
    rw[List.getElem?_append_right (by simp;omega)]at hv
    simp only[List.length_append,List.length_replicate]at hv
    rw[show k - (args.length+(N - svs.length))=k - N from by omega]at hv
    simp only[upSt,List.getElem?_map]at hs
    obtain⟨x,hx,rfl⟩:=AHz hs
    have:=KBz (N:=N) (hg.frame.2 _ v x hv hx)
    rwa[show N+(k - N)=k from by omega]at this
 ·right
  obtain⟨s1,p1,u1,h1,e1⟩:=H7z h
  injection e1 with e1 e2;injection e2 with e2 e3
  subst e1;subst e2;subst e3
  rw[S4z hl]
  exact(hg.tags.cell _ _ _ _ _ _ h1).resolve_left id
 ·obtain⟨s1,p1,u1,h1,e1⟩:=H7z h
  injection e1 with e1 e2;injection e2 with e2 e3
  subst e1;subst e2;subst e3
  obtain⟨l,h2⟩:=hg.tags.box _ _ _ _ _ h1
  refine⟨l.map (CV.up N),?_⟩
  rw[List.getElem?_append_right (by rw[hl];omega),hl,show N+s1 - N=s1 from by omega]
  simp[upSt,h2,SV.up]
theorem V0z {X:Ctx} {vs:List Value} {σ:St} (hg:Good X vs σ NoE) {N:Nat} (hlow:∀s,s<N→σ[s]? =some .undef):Good (X.dn N) (vs.drop N) (dnSt N σ) NoE:=by
 refine⟨⟨fun b t h=> ?_,fun b b' s p q base tip base' tip' h h'=> ?_,hg.inv.vs,hg.inv.va⟩,⟨by simp[dnSt,hg.frame.1],fun k v sv hv hs=> ?_⟩,fun b s p q base tip h=> ?_,fun b s q base tip h=> ?_⟩
 ·obtain⟨s,p,u,h1,_⟩:=Ikz h;exact hg.inv.own b _ h1
 ·obtain⟨s1,p1,u1,h1,n1,e1⟩:=Ikz h
  obtain⟨s2,p2,u2,h2,n2,e2⟩:=Ikz h'
  injection e1 with e1 e3;injection e3 with e3 e5
  injection e2 with e2 e4;injection e4 with e4 e6
  have:s1=s2:=by omega
  subst this;subst e3;subst e4;subst e5;subst e6
  exact hg.inv.one _ _ _ _ _ _ _ _ _ h1 h2
 ·simp only[dnSt,List.getElem?_map,List.getElem?_drop]at hv hs
  obtain⟨x,hx,rfl⟩:=AHz hs
  exact Yez (hg.frame.2 _ v x hv hx)
 ·right
  obtain⟨s1,p1,u1,h1,n1,e1⟩:=Ikz h
  injection e1 with e1 e2;injection e2 with e2 e3
  subst e2;subst e3
  have h2:=(hg.tags.cell _ _ _ _ _ _ h1).resolve_left id
  unfold ABz at h2 ⊢
  rw[List.getD_eq_getElem?_getD]at h2 ⊢
  simp only[dnSt,List.getElem?_map,List.getElem?_drop]
  rw[show N+s=s1 from by omega]
  cases e4:σ[s1]? with
  |none=>rw[e4]at h2;simp[CV.isOw]at h2
  |some x=>
   rw[e4]at h2
   cases x with
   |c sh l=>
    simp only[Option.getD_some,List.getD_eq_getElem?_getD]at h2
    simp only[Option.map_some,Option.getD_some,SV.dn,List.getD_eq_getElem?_getD,List.getElem?_map]
    cases e5:l[p]? with
    |none=>rw[e5]at h2;simp[CV.isOw]at h2
    |some c=>
     rw[e5]at h2
     cases c with
     |ow f es rows=>rfl
     |_=>simp[CV.isOw]at h2
   |_=>simp[CV.isOw]at h2
 ·obtain⟨s1,p1,u1,h1,n1,e1⟩:=Ikz h
  injection e1 with e1 e2;injection e2 with e2 e3
  subst e2;subst e3
  obtain⟨l,h2⟩:=hg.tags.box _ _ _ _ _ h1
  refine⟨l.map (CV.dn N),?_⟩
  simp only[dnSt,List.getElem?_map,List.getElem?_drop]
  rw[show N+s=s1 from by omega,h2]
  rfl
theorem PIz (d k:Nat) (σ:St) (h:σ[k]? =some .undef):(clear d σ)[k]? =some .undef:=by
 have hdem:∀(n j:Nat) (σ:St),σ[k]? =some .undef→(Abz d j n σ)[k]? =some .undef:=by
  intro n
  induction n with
  |zero=>intro j σ h;exact h
  |succ n ih=>
   intro j σ h
   simp only[Abz]
   refine ih (j+1) _ ?_
   split
   ·unfold demote;rw[BQz,h];rfl
   ·exact h
 unfold clear
 split
 ·rename_i l hl
  have hne:d≠k:=fun e=>by
   subst e
   rw[List.getD_eq_getElem?_getD,h]at hl;simp at hl
  rw[List.getElem?_set_ne hne,List.getElem?_map,hdem _ _ _ h]
  rfl
 ·exact hdem _ _ _ h
 ·exact h
theorem Dmz (d:Nat) (σ:St):(clear d σ).length=σ.length:=by
 have hdem:∀(n j:Nat) (σ:St),(Abz d j n σ).length=σ.length:=by
  intro n
  induction n with
  |zero=>intro j σ;rfl
  |succ n ih=>
   intro j σ
   simp only[Abz]
   rw[ih]
   split
   ·exact Arz _ _ _ _
   ·rfl
 unfold clear
 split
 ·simp[hdem]
 ·exact hdem _ _ _
 ·rfl
theorem J8z {N k:Nat}:∀(l:List Nat) (σ:St),σ[k]? =some .undef→(tidy N l σ)[k]? =some .undef
 |[],σ,h=>h
 |d::l,σ,h=>by
  simp only[tidy]
  refine J8z l _ ?_
  split
  ·by_cases e:d=k
   ·subst e
    rw[List.getElem?_set_self (by rw[Dmz];exact(List.getElem?_eq_some_iff.1 h).1)]
   ·rw[List.getElem?_set_ne e];exact PIz d k σ h
  ·exact h
theorem Lqz {N k:Nat}:∀(l:List Nat) (σ:St),k∈l→k<N→k<σ.length→(tidy N l σ)[k]? =some .undef
 |[],σ,h,_,_=>by simp at h
 |d::l,σ,h,hN,hl=>by
  simp only[tidy]
  by_cases e:d=k
  ·subst e
   rw[if_pos hN]
   exact J8z l _ (List.getElem?_set_self (by rw[Dmz];exact hl))
  ·have hm:k∈l:=by rcases List.mem_cons.1 h with h|h;exact absurd h.symm e;exact h
   refine Lqz l _ hm hN ?_
   split
   ·simp[Dmz];exact hl
   ·exact hl
theorem UCz {X:Ctx} {vs:List Value} {σ σ':St} {P:Program} {inl:Bool} {N d:Nat} {vals:List Value} {fs:List (List Value)} {shapes:List (Bool×Nat)} {cells:List CV} {X0:Ctx} (L:Left P X0 X vs σ σ' NoE inl N d 0 vals fs shapes cells) (hd:d<σ'.length)
  (hnb:∀l,σ[d]? ≠some (.c .box l)) (hfree:∀p,Free X0 d p):Good X (vs.set d (if h:vals.toArray.size=1 then vals.toArray[0]else .tuple vals.toArray)) (σ'.set d (.c (BCz shapes) cells)) NoE:=by
 obtain⟨m,L0⟩:=L.left
 have hbox:∀b q base tip,X.own b≠some (d,0,q,base,tip):=fun b q base tip h=>by
  obtain⟨l,hl⟩:=L0.good.tags.box _ _ _ _ _ h
  obtain⟨l',hl'⟩:=(L0.shape d .box).1 ⟨l,hl⟩
  exact hnb l' hl'
 refine DIz (E:=fun a b=>NoE a b∨(a=d∧0≤b∧b<0+cells.length)) L0.good (fun a b h=>by rcases h with h|h;exact h.elim;exact h.1) (.refl X) L0.good.inv hd (fun b t h=> .inl h) hbox (.c _ _ _ _ (Psz L.nums L.flat) L.rel) (fun b p q base tip h=> ?_) fun b q base tip h=>absurd h (hbox _ _ _ _)
 by_cases hp:p<cells.length
 ·have e2:cells[p]? =some cells[p]:=List.getElem?_eq_getElem hp
  simp only[C1z,List.getD_eq_getElem?_getD,e2,Option.getD_some]
  cases hh:(cells[p]).isOw with
  |true=>rfl
  |false=>
   have:=L.tag p _ e2 hh
   rw[Nat.zero_add]at this
   exact absurd h (this _ _ _ _)
 ·exact absurd h (L0.free d p (fun e=>hp (by omega)) (hfree p) _ _ _ _)
theorem O6z {P:Program} {T:Tys} (hT:TOk P T) {fn:Func} {X1:Ctx} {a':Act} {vs:List Value} {σ1:St} (hg1:Good X1 (All a' vs) σ1 NoE) (hs1:a'.tmps.size=fn.ntmps) {d:Nat} (hd:d<vs.length) {q:St×List (Bool×Nat)×List CV}
  (hq:BGz T true fn.ntmps (fn.ntmps+d) 0 fn.results.toList (wipe (fn.ntmps+d) σ1)=some q):
  ∃v X',(results fn a'.tmps).run P X1.w= .ok v X'.w∧X'.w=X1.w∧Goes X1 X'∧Good X' (vs.set d v) (dnSt fn.ntmps (tidy fn.ntmps (List.range fn.ntmps) (q.1.set (fn.ntmps+d) (SV.c (BCz q.2.1) q.2.2)))) NoE:=by
 obtain⟨σ2,shapes,cells⟩:=q
 have hlen1:σ1.length=fn.ntmps+vs.length:=by
  rw[←hg1.frame.1];unfold All;rw[List.length_append,Array.length_toList,hs1]
 obtain⟨X2,hw2,G2,hg2⟩:=Mwz hg1 (d:=fn.ntmps+d) (by omega)
 change Good X2 _ (wipe (fn.ntmps+d) σ1) NoE at hg2
 have hwl:(wipe (fn.ntmps+d) σ1).length=σ1.length:=by simp[wipe,Dmz]
 have hself:(wipe (fn.ntmps+d) σ1)[fn.ntmps+d]? =some .undef:=List.getElem?_set_self (by rw[Dmz];omega)
 have hout:∀p,(ABz (wipe (fn.ntmps+d) σ1) (fn.ntmps+d) p).isOw=false:=fun p=>by
  rw[Cwz fun sh l e=>by rw[hself]at e;simp at e];rfl
 obtain⟨X3,vals,fs,L,hvl,hvals⟩:=Jpz (P:=P) hT hs1.symm hg2 hout (fun p _=>Dzz hg2 (hout p)) hq
 obtain⟨m0,L0⟩:=L.left
 have hrun:=KKz (P:=P) hvl hvals
 have hσ2:σ2.length=σ1.length:=L0.size.trans hwl
 have hg4:=UCz L (by rw[hσ2];omega) (fun l e=>by rw[hself]at e;simp at e) (fun p=>Dzz hg2 (hout p))
 obtain⟨X5,hw5,G5,hg5⟩:=Ivz (N:=fn.ntmps) (List.range fn.ntmps) hg4 (by simp;omega)
 have hlow:∀s,s<fn.ntmps→(tidy fn.ntmps (List.range fn.ntmps) (σ2.set (fn.ntmps+d) (SV.c (BCz shapes) cells)))[s]? =some .undef:=fun s hs=>
  Lqz _ _ (by simpa using hs) hs (by simp;omega)
 have hg6:=V0z hg5 hlow
 refine⟨if h:vals.toArray.size=1 then vals.toArray[0]else .tuple vals.toArray,X5.dn fn.ntmps,?_,?_,(G2.trans L0.goes).trans (G5.trans (V1z X5 _)),?_⟩
 ·rw[←hw2,hrun]
  show _=Result.ok _ X5.w
  rw[hw5,L0.w]
 ·show X5.w=_
  rw[hw5,L0.w,hw2]
 ·have hall:((All a' vs).set (fn.ntmps+d) (if h:vals.toArray.size=1 then vals.toArray[0]else .tuple vals.toArray)).drop fn.ntmps=vs.set d (if h:vals.toArray.size=1 then vals.toArray[0]else .tuple vals.toArray):=by
   unfold All
   rw[List.set_append_right _ _ (by rw[Array.length_toList];omega),List.drop_left' (by rw[Array.length_toList];exact hs1),Array.length_toList,hs1,show fn.ntmps+d - fn.ntmps=d from by omega]
  rw[hall]at hg6
  exact hg6
theorem Tiz {α:Type} (l:List α) (d:Nat) (x:α):l.set d (l.getD d x)=l:=by
 apply List.ext_getElem?
 intro i
 by_cases h:d=i
 ·subst h
  by_cases hl:d<l.length
  ·rw[List.getElem?_set_self hl,List.getD_eq_getElem?_getD,List.getElem?_eq_getElem hl];rfl
  ·rw[List.getElem?_eq_none (by simp;omega),List.getElem?_eq_none (by omega)]
 ·rw[List.getElem?_set_ne h]
theorem Ohz {P:Program} {E:Env} (hT:TOk P E.T) {f:FuncId} {ic:InF} (hic:∀g,DWz P g (ic g)):TOk P (E.run f ic).T:=by
 have hso:∀g h,(E.run f ic).T.so g=some h→DWz P g h:=fun g h hg=>by
  simp only[Env.run]at hg
  split at hg
  ·injection hg with hg;subst hg;exact hic g
  ·exact hT.so g h hg
 exact⟨hT.sl,hT.sz,hT.byt,hT.ag1,hT.ag0,hT.zr,hT.fo,hT.fz,hT.fi,hT.ik,hT.str,hT.boo,hso,hT.eqs⟩
theorem SUz {P:Program} {E:Env} (hT:TOk P E.T) (hE:I8z P E) (hm:P.follows .mixedOrders=true) {n:Nat} {call:CallF} {ic:InF} (hcall:Bvz P call) (hic:∀g,DWz P g (ic g)) (f:FuncId):DWz P f (ibody E n call ic f):=by
 intro X vs σ σ' args svs sv d hg hlen ha h hd hno how hbx
 unfold ibody at h
 obtain⟨fn,hf,h⟩:=AAz h
 obtain⟨code,hb,h⟩:=AAz h
 split at h
 case isFalse=>simp at h
 rename_i hN
 obtain⟨⟨ex,σ1⟩,h1,h⟩:=AAz h
 obtain⟨hfn,hname⟩:=hE f fn hf
 have hdv:d<vs.length:=by rw[hg.frame.1];exact hd
 unfold Lands
 rw[GPz hfn hname hb]
 simp only
 refine calls_of_wp hfn hb ?_
 let a0:Act:={tmps:=args.toArray++Array.replicate (fn.ntmps - args.toArray.size) undef,defers:=[]}
 have hgood:=VJz hg (N:=fn.ntmps) hlen ha hN
 have hall:All a0 vs=args++List.replicate (fn.ntmps - svs.length) undef++vs:=by
  simp[All,a0,hlen]
 have hsz:fn.ntmps=a0.tmps.size:=by simp[a0];omega
 rw[←hall]at hgood
 refine Cgz (P:=P) (E:=E.run f ic) (X:=X.up fn.ntmps) (Ohz hT hic) hcall hm (n:=n) code hgood hsz h1 fun a' X1 G hg1 hs1 hd1=> ?_
 have key:∀{q:St×List (Bool×Nat)×List CV},BGz (E.run f ic).T true fn.ntmps (fn.ntmps+d) 0 fn.results.toList (wipe (fn.ntmps+d) σ1)=some q→dnSt fn.ntmps (tidy fn.ntmps (List.range fn.ntmps) (q.1.set (fn.ntmps+d) (SV.c (BCz q.2.1) q.2.2)))=σ'→σ'.getD d .undef=sv→
   ∃v X',(results fn a'.tmps).run P X1.w= .ok v X'.w∧X'.w=X1.w∧Goes X X'∧Good X' (vs.set d v) (σ'.set d sv) NoE:=fun{q} hq e1 e2=>by
  obtain⟨v,X',hr,hw,G',hg'⟩:=O6z (P:=P) (Ohz hT hic) hg1 hs1 hdv hq
  refine⟨v,X',hr,hw,((VKz X fn.ntmps).trans G).trans G',?_⟩
  rw[←e2,Tiz,←e1]
  exact hg'
 cases ex with
 |exit i=>simp at h
 |normal=>
  obtain⟨q,hq,h⟩:=AHz h
  injection h with e1 e2
  rw[e1]at e2
  obtain⟨v,X',hr,hw,G',hg'⟩:=key hq e1 e2
  exact⟨hd1,v,by rw[hr,hw],X',hw,G',hg'⟩
 |ret=>
  obtain⟨q,hq,h⟩:=AHz h
  injection h with e1 e2
  rw[e1]at e2
  obtain⟨v,X',hr,hw,G',hg'⟩:=key hq e1 e2
  exact⟨hd1,v,by rw[hr,hw],X',hw,G',hg'⟩
theorem Tyz {P:Program} {E:Env} (hT:TOk P E.T) (hE:I8z P E) (hO:LCz P E) (hm:P.follows .mixedOrders=true) {n:Nat} {call:CallF} {ic:InF} (hcall:Bvz P call) (hic:∀g,DWz P g (ic g)):Bvz P (pbody E n call ic):=fun f args bs r h=>by
 unfold pbody at h
 split at h
 ·rename_i g hg
  exact hO f g _ hg hcall args bs r h
 obtain⟨fn,hf,h⟩:=AAz h
 obtain⟨code,hb,h⟩:=AAz h
 split at h
 case isFalse=>simp at h
 rename_i hlen
 obtain⟨⟨ex,σ1⟩,h1,h⟩:=AAz h
 obtain⟨hfn,hname⟩:=hE f fn hf
 have hT':=Ohz (f:=f) hT hic
 refine P5z hT' hfn hname hb hlen fun gv X a Q hgood hsz hQ=> ?_
 refine Cgz (P:=P) (E:=E.run f ic) hT' hcall hm (n:=n) code hgood hsz h1 fun a' X1 G hg1 hs1 hd1=> ?_
 have key:∀{ex:Ex},((BGz (E.run f ic).T false fn.ntmps σ1.length 0 fn.results.toList σ1).bind fun q=>
    (settles ((List.range bs.length).map (fn.ntmps+ ·)) q.1).bind fun σ=>
    (Bwz σ ((List.range bs.length).map (fn.ntmps+ ·))).bind fun m=>
     if m.all (·.all noBr)then some (⟨.c (BCz q.2.1) q.2.2,m⟩:Ret)else none)=some r→Leaves (E.run f ic).T fn bs.length σ1 r:=fun{ex} h=>by
  obtain⟨q,hq,h⟩:=AAz h
  obtain⟨σ,hσ,h⟩:=AAz h
  obtain⟨m,hm',h⟩:=AAz h
  split at h
  case isFalse=>simp at h
  rename_i hnb
  injection h with h
  exact⟨q,σ,m,hq,hσ,hm',hnb,h.symm⟩
 cases ex with
 |exit i=>simp at h
 |normal=>exact hQ .normal σ1 a' X1 (.inl rfl) (key (ex:= .normal) h) G hg1 hs1 hd1
 |ret=>exact hQ .ret σ1 a' X1 (.inr rfl) (key (ex:= .ret) h) G hg1 hs1 hd1
theorem OPz {P:Program} {E:Env} (hT:TOk P E.T) (hE:I8z P E) (hO:LCz P E) (hm:P.follows .mixedOrders=true):∀n,Bvz P (pcall E n)∧∀g,DWz P g (icall E n g)
 |0=>⟨fun g args bs r h=>by simp[QYz]at h,fun g X vs σ σ' args svs sv d _ _ _ h=>by simp[Qtz]at h⟩
 |n+1=>by
  obtain⟨h1,h2⟩:=OPz hT hE hO hm n
  rw[HQz,Kiz]
  exact⟨Tyz hT hE hO hm h1 h2,fun g=>SUz hT hE hm h1 h2 g⟩
theorem Txz {P:Program} {E:Env} (hT:TOk P E.T) (hE:I8z P E) (hO:LCz P E) (hm:P.follows .mixedOrders=true) (n:Nat):Bvz P (pcall E n):=(OPz hT hE hO hm n).1
end Go.Proofs.YtblelojdboefjaaGreatDoor.R
namespace Go.Proofs.YtblelojdboefjaaGreatDoor.R
open Go
inductive STy where
 |int (k:IntKind)|bool|str
 |sl (e:STy)
 |nil
 |cons (a b:STy)
def STy.size:STy→Nat
 | .nil=>0
 | .cons a b=>a.size+b.size
 |_=>1
mutual
inductive Fits:STy→List PV→Nat→Prop
 |int (k:IntKind) (n:Int):k.min≤n→n≤k.max→Fits (.int k) [.i k n] 1
 |bool (b:Bool):Fits .bool [.b b] 1
 |str (s:ByteArray):Fits .str [.t s] (s.size+1)
 |sl (e:STy) (rows:List (List PV)) (n:Nat):FitsRows e rows n→Fits (.sl e) [.s e.size rows] (n+1)
 |nil:Fits .nil [] 0
 |cons (a b:STy) (x y:List PV) (n m:Nat):Fits a x n→Fits b y m→Fits (.cons a b) (x++y) (n+m)
inductive FitsRows:STy→List (List PV)→Nat→Prop
 |nil (e:STy):FitsRows e [] 0
 |cons (e:STy) (row:List PV) (rows:List (List PV)) (n m:Nat):Fits e row n→FitsRows e rows m→FitsRows e (row::rows) (n+m)
end
mutual
theorem Fits.length {e:STy} {l:List PV} {n:Nat} (h:Fits e l n):l.length=e.size:=
 match h with
 | .int .. =>rfl
 | .bool _=>rfl
 | .str _=>rfl
 | .sl .. =>rfl
 | .nil=>rfl
 | .cons a b x y n m h1 h2=>by rw[List.length_append,h1.length,h2.length];rfl
end
mutual
inductive OfTy (P:Program):TypeId→STy→Prop
 |int (t:TypeId) (k:IntKind):P.underlying t=some (.int k)→OfTy P t (.int k)
 |bool (t:TypeId):P.underlying t=some .bool→OfTy P t .bool
 |str (t:TypeId):P.underlying t=some .string→OfTy P t .str
 |sl (t e:TypeId) (s:STy):P.underlying t=some (.slice e)→OfTy P e s→P.cellsOf e=s.size→0<s.size→OfTy P t (.sl s)
 |st (t:TypeId) (fs:Array Field) (s:STy):P.underlying t=some (.struct fs)→OfFields P 0 fs.toList s→P.cellsOf t=s.size→OfTy P t s
inductive OfFields (P:Program):Nat→List Field→STy→Prop
 |nil (o:Nat):OfFields P o [] .nil
 |cons (o:Nat) (f:Field) (fs:List Field) (a b:STy):f.offset=o→OfTy P f.type a→P.cellsOf f.type=a.size→OfFields P (o+a.size) fs b→OfFields P o (f::fs) (.cons a b)
end
mutual
def ofTy? (P:Program):Nat→TypeId→Option STy
 |0,_=>none
 |n+1,t=>match P.underlying t with
  |some (.int k)=>some (.int k)
  |some .bool=>some .bool
  |some .string=>some .str
  |some (.slice e)=>(ofTy? P n e).bind fun s=>if P.cellsOf e=s.size∧0<s.size then some (.sl s)else none
  |some (.struct fs)=>(ofFields? P n 0 fs.toList).bind fun s=>if P.cellsOf t=s.size then some s else none
  |_=>none
def ofFields? (P:Program):Nat→Nat→List Field→Option STy
 |_,_,[]=>some .nil
 |0,_,_=>none
 |n+1,o,f::fs=>(ofTy? P n f.type).bind fun a=>if f.offset=o∧P.cellsOf f.type=a.size then(ofFields? P n (o+a.size) fs).map fun b=> .cons a b else none
end
mutual
theorem Izz {P:Program}:∀{n:Nat} {t:TypeId} {s:STy},ofTy? P n t=some s→OfTy P t s
 |0,t,s,h=>by simp[ofTy?]at h
 |n+1,t,s,h=>by
  simp only[ofTy?]at h
  split at h
  ·rename_i k e;injection h with h;subst h;exact .int t k e
  ·rename_i e;injection h with h;subst h;exact .bool t e
  ·rename_i e;injection h with h;subst h;exact .str t e
  ·rename_i e he
   obtain⟨s',h1,h⟩:=AAz h
   split at h
   ·rename_i hc;injection h with h;subst h;exact .sl t e s' he (Izz h1) hc.1 hc.2
   ·simp at h
  ·rename_i fs he
   obtain⟨s',h1,h⟩:=AAz h
   split at h
   ·rename_i hc;injection h with h;subst h;exact .st t fs s' he (JLz h1) hc
   ·simp at h
  ·simp at h
theorem JLz {P:Program}:∀{n o:Nat} {fs:List Field} {s:STy},ofFields? P n o fs=some s→OfFields P o fs s
 |0,o,[],s,h=>by simp only[ofFields?]at h;injection h with h;subst h;exact .nil o
 |n+1,o,[],s,h=>by simp only[ofFields?]at h;injection h with h;subst h;exact .nil o
 |0,o,f::fs,s,h=>by simp[ofFields?]at h
 |n+1,o,f::fs,s,h=>by
  simp only[ofFields?]at h
  obtain⟨a,h1,h⟩:=AAz h
  split at h
  ·rename_i hc
   obtain⟨b,h2,h⟩:=AHz h
   subst h
   exact .cons o f fs a b hc.1 (Izz h1) hc.2 (JLz h2)
  ·simp at h
end
def entry (W:World):Ctx:={w:=W,own:=fun _=>none,va:=fun b=>b<W.heap.size,vs:=fun _=>False}
theorem Srz (W:World):Inv (entry W):=⟨fun b t h=>by simp[entry]at h,fun b b' s o q base tip base' tip' h=>by simp[entry]at h,fun b h=>h.elim,fun b h=>h⟩
structure BulkLaw {H:Type} (B:DataW H→Nat) (BA:List (DataW H)→Nat):Prop where
 one:∀d,1≤B d
 str:∀l,l.length+1≤B (.lit (.string l))
 sl:∀e s,BA e+1≤B (.slice e s)
 agg:∀l,BA l≤B (.agg l)
 cons:∀d l,B d+BA l≤BA (d::l)
theorem RdL.append {X:Ctx} {f:Bool}:∀{vs ws:List Value} {ps qs:List PV},RdL X f vs ps→RdL X f ws qs→RdL X f (vs++ws) (ps++qs)
 |_,_,_,_,.nil,h=>h
 |_,_,_,_,.cons v p vs ps h t,h'=> .cons v p _ _ h (RdL.append t h')
end Go.Proofs.YtblelojdboefjaaGreatDoor.R
namespace Go.Proofs.YtblelojdboefjaaGreatDoor.R
open Go
section
variable {H:Type} {enc:TypeId×Value→H} {P:Program} {W:World} {B:DataW H→Nat} {BA:List (DataW H)→Nat}
def Opens (W:World) (s:STy) (cs:List Value) (n:Nat):Prop:=∃pl m,Fits s pl m∧m≤n∧RdL (entry W) true cs pl
theorem KUz {e:TypeId} {s:STy} {b off:Nat} {c:Array Value} {elem:TypeId} {fr:Nat×Nat} (hb:W.heap[b]? =some (.cells c elem fr)) (hlt:b<W.heap.size):∀(len i:Nat) (ds:List (DataW H)),ds.length=len→
  (∀(j:Nat) (d:DataW H),ds[j]? =some d→∃cs,(∀(q:Nat) (v:Value),cs[q]? =some v→c[off+(i+j)*s.size+q]? =some v)∧Opens W s cs (B d))→(BL:BulkLaw B BA)→
  ∃rows m,FitsRows s rows m∧m≤BA ds∧rows.length=len∧RdRows W.heap ((entry W).V true) c (off+i*s.size) s.size rows
 |0,i,ds,hl,H,BL=>by
  have:ds=[]:=List.length_eq_zero_iff.1 hl
  subst this
  exact⟨[],0,.nil s,Nat.zero_le _,rfl,.nil _ _ _⟩
 |len+1,i,ds,hl,H,BL=>by
  cases ds with
  |nil=>simp at hl
  |cons d ds=>
   obtain⟨cs,hcs,pl,m,hf,hm,hr⟩:=H 0 d rfl
   obtain⟨rows,m',h1,h2,h3,h4⟩:=KUz (e:=e) hb hlt len (i+1) ds (by simpa using hl) (fun j d' hd=>by
    obtain⟨cs',g1,g2⟩:=H (j+1) d' (by simpa using hd)
    refine⟨cs',fun q v hv=> ?_,g2⟩
    have:=g1 q v hv
    rw[show i+1+j=i+(j+1)from by omega]
    exact this) BL
   refine⟨pl::rows,m+m',.cons s pl rows m m' hf h1,?_,by simp[h3],.cons c _ _ pl rows hf.length ?_ ?_⟩
   ·have:=BL.cons d ds;omega
   ·refine RdRow.mk fun j p hj=> ?_
    obtain⟨v,hv,hrd⟩:=hr.get j p hj
    exact⟨v,by simpa using hcs j v hv,hrd⟩
   ·rw[show off+i*s.size+s.size=off+(i+1)*s.size from by rw[Nat.add_mul];omega]
    exact h4
theorem IUz (BL:BulkLaw B BA) {n:Nat} {sp:Nat→Bool} {held:Bool} (ih:∀{t:TypeId} {cs:List Value} {d:DataW H} {ps:List MemPlace} {s:STy},OfTy P t s→DataW.trod enc P W 0 sp held n t cs=some (d,ps)→Opens W s cs (B d)) {cs:List Value}:
  ∀{o:Nat} {fs:List Field} {s:STy} {xs:List (DataW H×List MemPlace)},OfFields P o fs s→xs.length=fs.length→(∀(i:Nat) (f:Field),fs[i]? =some f→DataW.trod enc P W 0 sp held n f.type ((cs.drop f.offset).take (P.cellsOf f.type))=xs[i]?)→o+s.size≤cs.length→
   ∃pl m,Fits s pl m∧m≤BA (xs.map (·.1))∧RdL (entry W) true ((cs.drop o).take s.size) pl
 |o,[],s,xs,hs,hl,H,hc=>by
  cases hs
  exact⟨[],0,.nil,Nat.zero_le _,by simpa[STy.size]using RdL.nil⟩
 |o,f::fs,s,xs,hs,hl,H,hc=>by
  cases hs with
  |cons _ _ _ a b ho hf hsz hfs=>
   cases xs with
   |nil=>simp at hl
   |cons x xs=>
    have h0:=H 0 f rfl
    simp only[List.getElem?_cons_zero]at h0
    obtain⟨pl,m,h1,h2,h3⟩:=ih hf h0
    simp only[STy.size]at hc
    obtain⟨pl',m',g1,g2,g3⟩:=IUz BL ih hfs (xs:=xs) (by simpa using hl) (fun i f' hf'=>by simpa using H (i+1) f' (by simpa using hf')) (by omega)
    refine⟨pl++pl',m+m',.cons a b pl pl' m m' h1 g1,?_,?_⟩
    ·have:=BL.cons x.1 (xs.map (·.1))
     simp only[List.map_cons]
     omega
    ·have e:(cs.drop o).take (STy.cons a b).size=(cs.drop o).take a.size++(cs.drop (o+a.size)).take b.size:=by
      simp only[STy.size]
      rw[List.take_add,List.drop_drop]
     rw[e]
     rw[ho,hsz]at h3
     exact h3.append g3
theorem LOz (BL:BulkLaw B BA):∀(fuel:Nat),
  (∀{t:TypeId} {cs:List Value} {d:DataW H} {ps:List MemPlace} {sp:Nat→Bool} {held:Bool} {s:STy},OfTy P t s→DataW.trod enc P W 0 sp held fuel t cs=some (d,ps)→Opens W s cs (B d)):=by
 intro fuel
 induction fuel with
 |zero=>intro t cs d ps sp held s hs h;simp[DataW.trod]at h
 |succ fuel ih=>
  intro t cs d ps sp held s hs h
  cases hs with
  |int _ k hu=>
   obtain⟨n,rfl,hx,hw⟩:=DataW.trod_int hu h
   injection hx with h1 h2
   subst h1
   simp only[Lit.wf,Bool.and_eq_true,decide_eq_true_eq]at hw
   exact⟨_,1,.int _ _ hw.1 hw.2,BL.one _,.cons _ _ _ _ (.i _ _) .nil⟩
  |bool _ hu=>
   obtain⟨b,rfl,hx⟩:=DataW.trod_bool hu h
   injection hx with h1 h2
   subst h1
   exact⟨_,1,.bool _,BL.one _,.cons _ _ _ _ (.b _) .nil⟩
  |str _ hu=>
   obtain⟨s,rfl,hx,hw⟩:=DataW.trod_string hu h
   injection hx with h1 h2
   subst h1
   refine⟨_,_,.str s,Nat.le_trans ?_ (BL.str _),.cons _ _ _ _ (.t _) .nil⟩
   rw[Array.length_toList];exact Nat.le_refl _
  |sl _ e s' hu he hsz hpos=>
   rcases DataW.trod_slice hu h with⟨rfl,hx⟩|⟨a,len,cap,elems,rest,n,hn,rfl,hx,hb,hle,hcap,hlen,hel,_⟩
   ·injection hx with h1 h2
    subst h1
    exact⟨_,1,.sl s' [] 0 (.nil s'),BL.one _,.cons _ _ _ _ (.s0 none 0 _) .nil⟩
   ·injection hx with h1 h2
    injection hn with hn
    subst hn
    subst h1
    rcases Nat.eq_zero_or_pos len with h0|h0
    ·subst h0
     exact⟨_,1,.sl s' [] 0 (.nil s'),BL.one _,.cons _ _ _ _ (.s0 (some a) cap _) .nil⟩
    ·
     have hcells:∀(i:Nat) (x:DataW H×List MemPlace),elems[i]? =some x→∃cs',W.cells? 0 (a.add (i*P.cellsOf e)) (P.cellsOf e)=some cs'∧DataW.trod enc P W 0 sp held fuel e cs'=some x:=fun i x hx=>by
      have hi:i<len:=by rw[←hlen];exact(List.getElem?_eq_some_iff.1 hx).1
      have:=hel i hi
      rw[hx]at this
      exact AAz this
     have hfirst:∃c elem fr,W.heap[a.block]? =some (.cells c elem fr)∧a.spot=none:=by
      obtain⟨cs',h3,_⟩:=hcells 0 _ (List.getElem?_eq_getElem (by omega))
      obtain⟨_,h4,h5⟩:=World.cells?_some h3
      have h6:=h5 0 (by rw[hsz];exact hpos)
      rw[List.getElem?_eq_getElem (by omega)]at h6
      have e0:(a.add (0*P.cellsOf e)).add 0=a:=by simp[Addr.add]
      rw[e0]at h6
      unfold World.cell? at h6
      split at h6
      ·rename_i c elem fr hh
       split at h6
       ·simp at h6
       ·rename_i hspot
        refine⟨c,elem,fr,hh,?_⟩
        cases hq:a.spot with
        |none=>rfl
        |some z=>rw[hq]at hspot;simp at hspot
      ·simp at h6
     obtain⟨c,elem,fr,hh,hspot⟩:=hfirst
     obtain⟨blk,off,spot⟩:=a
     simp only at hspot hh
     subst hspot
     have hlt:blk<W.heap.size:=(Array.getElem?_eq_some_iff.1 hh).1
     obtain⟨rows,m,g1,g2,g3,g4⟩:=KUz (e:=e) (s:=s') (off:=off) hh hlt len 0 (elems.map (·.1)) (by simpa using hlen) (fun j d' hd=>by
      rw[List.getElem?_map]at hd
      obtain⟨x,hx,rfl⟩:=AHz hd
      obtain⟨cs',h3,h4⟩:=hcells j x hx
      obtain⟨_,h5,h6⟩:=World.cells?_some h3
      refine⟨cs',fun q v hv=> ?_,ih he h4⟩
      have hq:q<P.cellsOf e:=by rw[←h5];exact(List.getElem?_eq_some_iff.1 hv).1
      have h7:=h6 q hq
      rw[DMz,DMz,CWz hh,hv]at h7
      rw[Nat.zero_add,←hsz]
      exact h7) BL
     refine⟨_,m+1,.sl s' rows m g1,?_,.cons _ _ _ _ (.s blk off len cap _ c elem fr rows (.inr ⟨rfl,hlt⟩) hh g3.symm hle (by rw[Nat.zero_mul,Nat.add_zero]at g4;exact g4)) .nil⟩
     have:=BL.sl (elems.map (·.1)) (rest.map (·.1))
     omega
  |st _ fs _ hu hfs hsz=>
   obtain⟨xs,n,hn,hx,hl,hlen,hf⟩:=DataW.trod_struct hu h
   injection hx with h1 h2
   injection hn with hn
   subst hn
   subst h1
   obtain⟨pl,m,g1,g2,g3⟩:=IUz BL (n:=fuel) (cs:=cs) (fun{t cs d ps s} hs h=>ih hs h) hfs (xs:=xs) (by simpa using hlen) (fun i f hi=>hf i f (by simpa using hi)) (by omega)
   refine⟨pl,m,g1,Nat.le_trans g2 (BL.agg _),?_⟩
   have:(cs.drop 0).take s.size=cs:=by rw[List.drop_zero,←hsz,←hl,List.take_length]
   rw[this]at g3
   exact g3
end
end Go.Proofs.YtblelojdboefjaaGreatDoor.R
namespace Go.Proofs.YtblelojdboefjaaGreatDoor.R
open Go Go.RowKit
theorem Qxz {W:World} {X':Ctx} (h:Goes (entry W) X'):Below W.heap.size W X'.w:=
 ⟨h.os,h.tape,h.output,h.size,fun k hk=>h.keep k hk rfl⟩
def argC (p:PV):CV:= .sh (!p.scalar) p
theorem Xkz {W:World} {v:Value} {p:PV} (h:Rd W.heap ((entry W).V true) v p):∀k j,CVRel (entry W) k j v (argC p):=fun k j=>by
 refine .sh _ p v ?_
 cases hs:p.scalar with
 |true=>exact h.scalar hs
 |false=>exact h
theorem Irz {W:World}:∀{vs:List Value} {ps:List PV},RdL (entry W) true vs ps→VCells (entry W) vs (ps.map argC)
 |_,_,.nil=> .nil
 |_,_,.cons v p vs ps h t=> .cons v _ vs _ (Xkz h) (Irz t)
theorem WEz {W:World} {cs:Array Value} {ps:List PV} (h:RdL (entry W) true cs.toList ps):OSV (entry W) (.agg cs) (.c .agg (ps.map argC)):=D6z (.agg cs) (Irz h)
theorem P8z {W:World} {v:Value} {p:PV} (h:RdL (entry W) true [v] [p]):OSV (entry W) v (.c .one [argC p]):=by
 have hc:=Irz h
 cases h with
 |cons _ _ _ _ h _=>exact D6z (.one v (EHz h)) hc
theorem SLz {P:Program} {E:Env} (hT:TOk P E.T) (hE:I8z P E) (hO:LCz P E) (hm:P.follows .mixedOrders=true) {f:FuncId} {fn:Func} (hf:E.fns f=some fn) {code:Code} (hb:fn.body=some code) {W:World} {argv:List Value} {args:List SV} (ho:OSVs (entry W) argv args)
  (hs:∀N,args.map (Biz N)=args) {n:Nat} {r:Ret} (h:pcall E n f args []=some r) {fl:Bool} (hr:r.res= .c .one [.sh fl (.b true)]):
  Calls P f argv.toArray W fun e w'=>e= .returned (.bool true)∧Below W.heap.size W w':=by
 obtain⟨N,hN,H⟩:=Txz hT hE hO hm n f args [] r h
 have hlen:=ho.length
 have hg:Good (entry W) (argv++List.replicate (N - args.length) undef++[]) (args.map (Biz N)++List.replicate (N - args.length) .undef++[].map (SV.c .box)) NoE:=by
  rw[hs]
  refine⟨Srz W,⟨by simp[hlen],fun k v sv hv hsv=> ?_⟩,fun b s p q base tip h=>by simp[entry]at h,fun b s q base tip h=>by simp[entry]at h⟩
  simp only[List.append_nil,List.map_nil]at hv hsv
  by_cases hk:k<args.length
  ·rw[List.getElem?_append_left (by omega)]at hv
   rw[List.getElem?_append_left hk]at hsv
   exact ho.get k v sv hv hsv k
  ·rw[List.getElem?_append_right (by omega),List.getElem?_replicate]at hsv
   split at hsv
   ·injection hsv with hsv;subst hsv;exact .undef v
   ·simp at hsv
 have hL:=H (entry W) argv [] hlen hg
 obtain⟨h1,h2⟩:=hE f fn hf
 unfold Lands at hL
 rw[GPz h1 h2 hb]at hL
 refine Calls.mono hL ?_
 intro e w' he
 cases e with
 |returned v=>
  obtain⟨X',hw,G,hg'⟩:=he
  have hres:=hg'.frame.2 0 v _ rfl rfl
  rw[hr]at hres
  cases hres with
  |c _ _ vs _ hfl hc=>
   cases hfl with
   |one _ _=>
    cases hc with
    |cons _ _ _ _ _ hc _=>
     cases hc with
     |sh _ _ _ hrd=>
      cases hrd with
      |b x=>exact⟨rfl,by rw[←hw];exact Qxz G⟩
 |panicked c=>exact he.elim
 |outgrown=>exact he.elim
end Go.Proofs.YtblelojdboefjaaGreatDoor.R
namespace Go.Proofs.YtblelojdboefjaaGreatDoor.R
open Go
section
variable {P:Program}
theorem SVz {t:TypeId} {n:Nat} (h:(P.info? t).map (·.size)=some n):∃i,P.info? t=some i∧i.size=n:=AHz h
theorem Qqz {t:TypeId} {n:Nat} (h:(P.info? t).map (·.bytes)=some n):∃i,P.info? t=some i∧i.bytes=n:=AHz h
def isStruct?:Option TypeDesc→Bool
 |some (.struct _)=>true
 |_=>false
theorem Luz {t:TypeId} (h:isStruct? (P.underlying t)=true):∃fs,P.underlying t=some (.struct fs):=by
 cases e:P.underlying t with
 |none=>rw[e]at h;simp[isStruct?]at h
 |some d=>
  rw[e]at h
  cases d<;>simp[isStruct?]at h
  exact⟨_,rfl⟩
theorem Siz {t:TypeId} (h:(P.underlying t).map I2z=some false):∃d,P.underlying t=some d∧I2z d=false:=AHz h
def zOk:PV→Bool
 | .s _ []=>true
 | .s _ _=>false
 | .o _ _=>false
 | .un=>false
 |_=>true
theorem U5z {t:TypeId} {l:List PV} (h:((P.info? t).bind (·.zero)).map (·.cells.toList)=some (l.map PV.val)) (hl:l.all zOk=true):∃i v,P.info? t=some i∧i.zero=some v∧v.cells.toList=l.map PV.val∧(∀p∈l,p.scalar=true∨∃es,p= .s es []):=by
 obtain⟨v,h1,h2⟩:=AHz h
 obtain⟨i,h3,h4⟩:=AAz h1
 refine⟨i,v,h3,h4,h2,fun p hp=> ?_⟩
 have:=List.all_eq_true.1 hl p hp
 cases p with
 |s es rows=>
  cases rows with
  |nil=>exact .inr ⟨es,rfl⟩
  |cons _ _=>simp[zOk]at this
 |o es rows=>simp[zOk]at this
 |un=>simp[zOk]at this
 |_=>exact .inl rfl
def Laz (P:Program) (t:TypeId):List (Nat×Nat):=
 match P.underlying t with
 |some (.struct fs)=>fs.toList.map fun fl=>(fl.offset,((P.info? fl.type).map (·.size)).getD 0)
 |_=>[]
theorem Kqz {t:TypeId} {l:List (Nat×Nat)} (h:l=[]∨Laz P t=l) {f d n:Nat} (hf:l[f]? =some (d,n)) (hn:n≠0):∃fs fl i,P.underlying t=some (.struct fs)∧fs[f]? =some fl∧fl.offset=d∧P.info? fl.type=some i∧i.size=n:=by
 rcases h with h|h
 ·subst h;simp at hf
 ·unfold Laz at h
  split at h
  ·rename_i fs hu
   rw[←h,List.getElem?_map]at hf
   obtain⟨fl,h1,h2⟩:=AHz hf
   injection h2 with h3 h4
   cases hi:P.info? fl.type with
   |none=>rw[hi]at h4;simp at h4;exact absurd h4.symm hn
   |some i=>rw[hi]at h4;simp at h4;exact⟨fs,fl,i,hu,by simpa using h1,h3,hi,h4⟩
  ·rw[←h]at hf;simp at hf
def infos? (P:Program) (t:TypeId):Bool:=
 match P.underlying t with
 |some (.struct fs)=>fs.toList.all fun fl=>(P.info? fl.type).isSome
 |_=>true
theorem ULz {t:TypeId} (h:infos? P t=true) {fs:Array Field} (hu:P.underlying t=some (.struct fs)):∀fl∈fs,∃i,P.info? fl.type=some i:=fun fl hf=>by
 unfold infos? at h
 rw[hu]at h
 simp only[List.all_eq_true]at h
 exact Option.isSome_iff_exists.1 (h fl (by simpa using hf))
theorem func_of {f:FuncId} {fn:Func} (h:P.funcs[f]? =some fn) (hn:(fn.name== "runtime.NumGoroutine")=false):P.funcs[f]? =some fn∧(fn.name== "runtime.NumGoroutine")=false:=⟨h,hn⟩
end
end Go.Proofs.YtblelojdboefjaaGreatDoor.R
namespace Go.Proofs.YtblelojdboefjaaGreatDoor.R
open Go
def I6z (h:ByteArray→Int→Int):CallF→List SV→List (List CV)→Option Ret:=fun _ args bs=>
 match args,bs with
 |[.c .one [.sh _ (.t s)],.c .one [.sh _ (.i .u8 c)]],[]=>some ⟨pvSV (.i .i64 (h s c)),[]⟩
 |_,_=>none
theorem K6z {P:Program} {f:FuncId} {h:ByteArray→Int→Int} (hf:∀(s:ByteArray) (c:Int) (w:World),(callFunc f #[.string s,.int .u8 c]).run P w= .ok (.value (.int .i64 (h s c))) w) {call:CallF} {args:List SV} {bs:List (List CV)} {r:Ret} (hr:I6z h call args bs=some r):
  ∃N,args.length≤N∧∀(X:Ctx) (argv gv:List Value),argv.length=args.length→Good X (argv++List.replicate (N - args.length) undef++gv) (args.map (Biz N)++List.replicate (N - args.length) .undef++bs.map (.c .box)) NoE→
   Lands P f argv.toArray X.w fun v w'=>∃X',X'.w=w'∧Goes X X'∧Good X' (v::gv) (r.res::r.boxes.map (.c .box)) NoE:=by
 unfold I6z at hr
 split at hr
 ·rename_i x1 s x2 c
  injection hr with hr;subst hr
  refine⟨2,Nat.le_refl _,fun X argv gv hl hg=> ?_⟩
  match argv,hl with
  |[v1,v2],_=>
   simp only[List.length_cons,List.length_nil,Nat.sub_self,List.replicate_zero,List.append_nil,List.map_nil,List.map_cons,Biz]at hg
   have hgv:gv=[]:=by
    have:=hg.frame.1
    simp at this
    exact this
   subst hgv
   have h1:=hg.frame.2 0 v1 _ rfl rfl
   have h2:=hg.frame.2 1 v2 _ rfl rfl
   have e1:v1= .string s:=by
    cases h1 with
    |c _ _ vs _ hfl hc=>
     cases hfl with
     |one _ _=>
      cases hc with
      |cons _ _ _ _ _ hc _=>
       cases hc with
       |sh _ _ _ hrd=>cases hrd;rfl
   have e2:v2= .int .u8 c:=by
    cases h2 with
    |c _ _ vs _ hfl hc=>
     cases hfl with
     |one _ _=>
      cases hc with
      |cons _ _ _ _ _ hc _=>
       cases hc with
       |sh _ _ _ hrd=>cases hrd;rfl
   subst e1;subst e2
   unfold Lands
   rw[hf s c X.w]
   refine⟨X,rfl,.refl X,hg.inv,⟨rfl,fun k v sv hv hs=> ?_⟩,fun b s p q base tip ho=> ?_,fun b s q base tip ho=> ?_⟩
   ·cases k with
    |zero=>
     simp only[List.getElem?_cons_zero]at hv hs
     injection hv with hv;subst hv;injection hs with hs;subst hs
     exact .c .one _ [_] _ (.one _ (fun cs h=>by cases h)) (.cons _ _ _ _ _ (.sh _ _ _ (.i _ _)) (.nil _))
    |succ k=>simp at hv
   ·rcases hg.tags.cell b s p q base tip ho with h|h
    ·exact h.elim
    ·exfalso
     match s,h with
     |0,h=>cases p<;>simp[ABz,CV.isOw]at h
     |1,h=>cases p<;>simp[ABz,CV.isOw]at h
     |s+2,h=>simp[ABz,CV.isOw]at h
   ·obtain⟨l,h⟩:=hg.tags.box b s q base tip ho
    exfalso
    match s,h with
    |0,h=>simp at h
    |1,h=>simp at h
    |s+2,h=>simp at h
 ·simp at hr
theorem Sxz {P:Program} {f:FuncId} {fn:Func} (hf:P.funcs[f]? =some fn) (hname:(fn.name== "runtime.NumGoroutine")=false) (hb:fn.body.isNone=true) (hn:Extern.findNext fn=none) (he:Extern.find fn=some Extern.BytealgCount.count) (s:ByteArray) (c:Int) (w:World):
  (callFunc f #[.string s,.int .u8 c]).run P w= .ok (.value (.int .i64 (Lib.countByte s.data.toList c.toNat.toUInt8))) w:=by
 rw[run_callFunc_extern hf hname hb hn he,Lib.run_countString];rfl
theorem SWz {P:Program} {f:FuncId} {fn:Func} (hf:P.funcs[f]? =some fn) (hname:(fn.name== "runtime.NumGoroutine")=false) (hb:fn.body.isNone=true) (hn:Extern.findNext fn=none) (he:Extern.find fn=some Extern.BytealgIndexByte.indexByte) (s:ByteArray) (c:Int) (w:World):
  (callFunc f #[.string s,.int .u8 c]).run P w= .ok (.value (.int .i64 (Lib.indexByte s.data.toList c.toNat.toUInt8))) w:=by
 rw[run_callFunc_extern hf hname hb hn he,Lib.run_indexByteString];rfl
end Go.Proofs.YtblelojdboefjaaGreatDoor.R
