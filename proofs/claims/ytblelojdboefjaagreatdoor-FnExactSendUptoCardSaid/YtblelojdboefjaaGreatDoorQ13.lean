/- What is told of a sort: the slice that a cell owns has its texts in order behind it. -/
import Derived.Shelf.Sort.Plain
import Derived.Shelf.Slices.In.SortNone
import Derived.Lib.SliceRun
import Derived.Shelf.Slices.CompactI
import Derived.Shelf.Spec.SlicesGrow
import Derived.Test.YtblelojdboefjaaGreatDoorQ6
set_option linter.all false
namespace Go.Proofs.YtblelojdboefjaaGreatDoor.R
open Go Go.Sort Go.Shelf Go.RowKit
theorem MMz {X:Ctx} {vs:List Value} {σ:St} {E:Nat→Nat→Prop} (hg:Good X vs σ E) (os:Array Obj):Goes X (X.turned (grow X.w os))∧Good (X.turned (grow X.w os)) vs σ E:=by
 have hold:∀b,b<X.w.heap.size→(grow X.w os).heap[b]? =X.w.heap[b]? :=fun b hb=>heap_grow_old X.w os hb
 have hsz:X.w.heap.size≤(grow X.w os).heap.size:=by rw[size_grow];omega
 have hm:Mono X (X.turned (grow X.w os)):=by
  refine⟨fun f b h=>⟨h,hold b ?_⟩,fun b t h=>⟨h,hold b (hg.inv.own b t h).1⟩⟩
  rcases h with h|⟨_,h⟩
  ·exact hg.inv.vs b h
  ·exact hg.inv.va b h
 refine⟨⟨rfl,rfl,rfl,hsz,fun b hb _=>hold b hb,rfl,fun _ h=>h,fun _ h=> .inl h,fun _ h=> .inl h⟩,⟨⟨fun b t h=> ?_,hg.inv.one,fun b h=> ?_,fun b h=> ?_⟩,hg.frame.mono hm,⟨hg.tags.cell,hg.tags.box⟩⟩⟩
 ·exact⟨Nat.lt_of_lt_of_le (hg.inv.own b t h).1 hsz,(hg.inv.own b t h).2⟩
 ·exact Nat.lt_of_lt_of_le (hg.inv.vs b h) hsz
 ·exact Nat.lt_of_lt_of_le (hg.inv.va b h) hsz
theorem Lkz {α:Type} [Inhabited α] (enc:α→Value) {w:World} {b off n:Nat} {c:Array Value} {elem:TypeId} {fr:Nat×Nat} (h:w.heap[b]? =some (.cells c elem fr)) (d:Array α):
  Wrote w (putRow enc (Sort.ahead w n) b off d) b (putCells enc off d c) elem fr where
 at_:=by
  show(w.heap.modify b (onCells (putCells enc off d)))[b]? =_
  rw[Array.getElem?_modify,if_pos rfl,h];rfl
 else_:=fun k hk=>by
  show(w.heap.modify b (onCells (putCells enc off d)))[k]? =_
  rw[Array.getElem?_modify,if_neg (Ne.symm hk)]
 size:=by
  show(w.heap.modify b (onCells (putCells enc off d))).size=_
  rw[Array.size_modify]
 os:=rfl
 tape:=rfl
 output:=rfl
theorem Kaz {X:Ctx} {vs:List Value} {σ:St} {E:Nat→Nat→Prop} (hg:Good X vs σ E) {s o es es':Nat} {f f':Bool} {rows rows':List (List PV)} {v:Value}
  (hl:∀k j,CVRel X k j v (.br s o [] 0 0 f es rows)) (hc:ABz σ s o= .ow f' es' rows') (hn:rows'.length≠0) (hlen:rows.length=rows'.length):
  ∃blk base cap c elem fr,v= .slice (some ⟨blk,base,none⟩) rows'.length cap∧rows'.length≤cap∧X.own blk=some (s,o+1,[],base,rows'.length)∧X.w.heap[blk]? =some (.cells c elem fr)∧free fr c.size∧
   base+rows'.length*es'≤c.size∧X.ORows f' s o [] 0 c base es' rows':=by
 have h0:=hl 0 0
 obtain⟨v',how⟩:=OOz hg hc (by simp)
 cases h0 with
 |br0 _ _ _ _ _ _ _ a=>exact absurd (by simpa using hlen.symm) hn
 |br _ _ _ _ _ _ _ _ _ blk base tip cap c elem fr h=>
  cases how with
  |ow0 _ _ a=>exact absurd rfl hn
  |ow _ _ _ _ blk' off cap' c' elem' fr' h'=>
   have e1:blk'=blk:=hg.inv.one _ _ _ _ _ _ _ _ _ h'.own h.own
   subst e1
   have e2:=h'.own.symm.trans h.own
   injection e2 with e2;injection e2 with _ e2;injection e2 with _ e2;injection e2 with _ e2;injection e2 with e2 e3
   subst e2
   have hv:=h.val
   simp only[Nat.zero_mul,Nat.add_zero]at hv
   refine⟨blk',off,cap,c',elem',fr',by rw[←hlen];exact hv,by rw[←hlen];exact h.le,h'.own,h'.cells,h'.loose,?_,h'.reads⟩
   exact Nat.le_trans (Nat.add_le_add_left (Nat.mul_le_mul_right _ h'.le) _) h'.fits
theorem P7z {σ:St} {s o es:Nat} {f:Bool} {rows:List (List PV)} (h:ABz σ s o= .ow f es rows):atP σ s o []=some (f,es,rows):=by
 unfold atP
 rw[h]
 rfl
theorem J9z:∀{rows:List (List PV)} {l:List (List UInt8)},texts? rows=some l→rows=l.map fun x=>[.t ⟨x.toArray⟩]
 |[],l,h=>by simp[texts?]at h;subst h;rfl
 |r::rows,l,h=>by
  unfold texts? at h
  split at h
  ·rename_i e;cases e
  ·rename_i s l' e
   injection e with e1 e2
   subst e1;subst e2
   obtain⟨m,h1,h2⟩:=AHz h
   subst h2
   rw[J9z h1]
   rfl
  ·simp at h
theorem Hbz {P:Program} {f:FuncId} {fn:Func} (hf:P.funcs[f]? =some fn) (hn:(fn.name== "runtime.NumGoroutine")=false) {c:Code} (hb:fn.body=some c) {args:Array Value} {w:World} {R:Value→World→Prop}
  (h:Calls P f args w fun| .returned v,w'=>R v w'|_,_=>False):Lands P f args w R:=by
 unfold Lands
 rw[GPz hf hn hb]
 exact h
theorem Tuz {c:Array Value} {off:Nat} {l:List (List UInt8)} (h:off+l.length≤c.size) {hp:Array Obj} {V:Nat→Prop}:RdRows hp V (putCells encStr off l.toArray c) off 1 (l.map fun x=>[.t ⟨x.toArray⟩]):=by
 refine RdRows.mk fun i row hi=> ?_
 rw[List.getElem?_map]at hi
 obtain⟨x,hx,rfl⟩:=AHz hi
 have hlt:i<l.length:=(List.getElem?_eq_some_iff.1 hx).1
 refine⟨rfl,RdRow.mk fun j p hj=> ?_⟩
 have hj0:j=0:=by
  have:=(List.getElem?_eq_some_iff.1 hj).1
  simp at this;exact this
 subst hj0
 simp at hj
 subst hj
 refine⟨encStr x,?_,.t _⟩
 unfold putCells
 rw[Array.getElem?_mapIdx,Nat.mul_one,Nat.add_zero,Array.getElem?_eq_getElem (by omega),Option.map_some,if_pos ⟨by omega,by simp;omega⟩]
 congr 2
 rw[show off+i - off=i from by omega,getElem!_pos _ i (by simpa using hlt)]
 have:=List.getElem?_eq_getElem hlt
 rw[hx]at this
 injection this with this
 simpa using this.symm
theorem Ouz {P:Program} {ρ:Ren} (L:Lays.n190 P ρ) {fn:Func} (hf:P.funcs[ρ.f 190]? =some fn) (hn:(fn.name== "runtime.NumGoroutine")=false) {cd:Code} (hb:fn.body=some cd):DWz P (ρ.f 190) sortTextOrc:=by
 intro X vs σ σ' args svs sv d hg hlen hrel h hd hown hnow hbox
 unfold sortTextOrc at h
 split at h
 case h_2=>simp at h
 rename_i s o f es rows
 split at h
 case h_2=>simp at h
 rename_i f' rows' hcell
 split at h
 case isFalse=>simp at h
 rename_i hcond
 obtain⟨l,h1,h2⟩:=AHz h
 match args,hlen with
 |[v],_=>
 have hv:∀k j,CVRel X k j v (.br s o [] 0 0 f es rows):=fun k j=>by
  have:=hrel 0 v _ rfl rfl k
  cases this with
  |c _ _ ws _ hfl hc=>
   cases hfl with
   |one _ _=>
    cases hc with
    |cons _ _ _ _ _ hc _=>exact Itz hc k j
 have hlr:=J9z h1
 have hfin:∀{X':Ctx} {σ2:St},Goes X X'→Good X' vs σ2 NoE→σ2.length=σ.length→(∀b p q base tip,X'.own b≠some (d,p,q,base,tip))→∀u,Good X' (vs.set d u) (σ2.set d .undef) NoE:=fun{X' σ2} G g hs ho u=>
  DIz g (fun _ _ e=>e.elim) (.refl X') g.inv (by rw[hs];exact hd) (fun b t h=> .inl h) (fun b q base tip=>ho b 0 q base tip) (.undef u) (fun b p q base tip e=>absurd e (ho b _ q base tip)) (fun b q base tip e=>absurd e (ho b 0 q base tip))
 by_cases h0:rows'.length=0
 ·rw[if_pos h0]at h2
  injection h2 with h2 h3;subst h2;subst h3
  have hr0:rows=[]:=List.length_eq_zero_iff.1 (hcond.1.trans h0)
  subst hr0
  have hva:∃a cap,v= .slice a 0 cap:=by
   cases hv 0 0 with
   |br0 _ _ _ _ _ _ _ a=>exact⟨a,0,rfl⟩
   |br _ _ _ _ _ _ _ _ _ blk base tip cap c elem fr h=>exact⟨_,cap,h.val⟩
  obtain⟨a,cap,rfl⟩:=hva
  refine Hbz hf hn hb ((Any.slices_Sort_string_none L a cap X.w).mono ?_)
  rintro e w' ⟨rfl,rfl⟩
  exact⟨X,rfl,.refl X,hfin (.refl X) hg rfl hown _⟩
 ·rw[if_neg h0]at h2
  injection h2 with h2 h3;subst h2;subst h3
  obtain⟨blk,base,cap,c,elem,fr,rfl,hle,ho,hc,hfr,hfit,hrd⟩:=Kaz hg hv hcell h0 hcond.1
  have hll:l.length=rows'.length:=by rw[hlr,List.length_map]
  have hH:Holds encStr X.w blk base l.toArray:=fun j hj=>by
   have hj':j<l.length:=by simpa using hj
   obtain⟨g1,g2⟩:=hrd.get j [.t ⟨l[j].toArray⟩] (by rw[hlr,List.getElem?_map,List.getElem?_eq_getElem hj'];rfl)
   obtain⟨x,hx,hr⟩:=g2.get 0 _ rfl
   cases hr with|rd _ _ _ hr=>
   cases hr
   rw[Nat.mul_one,Nat.add_zero]at hx
   refine⟨?_,?_⟩
   ·rw[CWz hc,hx,getElem!_pos _ j hj];simp
   ·have:=hfr (base+j) (Array.getElem?_eq_some_iff.1 hx).1
    simp only[World.frozen?,hc]
    simpa using this
  have hblk:blk<X.w.heap.size:=(hg.inv.own blk _ ho).1
  have hrun:=Any.slices_Sort_string L blk base cap l X.w hH hblk (by rw[hll];exact hcond.2)
  rw[hll,←KFz]at hrun
  refine Hbz hf hn hb (hrun.mono ?_)
  rintro e w' ⟨rfl,n,os,rfl⟩
  have hsl:(BOz l).length=l.length:=(DSz _ l).length_eq
  have hW:=Lkz encStr (n:=n) (off:=base) hc (BOz l).toArray
  obtain⟨G1,g1⟩:=FZz hg hW ho hc (by simp[putCells]) (P7z hcell) (rows':=(BOz l).map fun x=>[.t ⟨x.toArray⟩]) (f':=false) (by rw[List.length_map,hsl,hll])
   ((Tuz (by rw[hsl,hll];omega)).asO [] 0)
  obtain⟨G2,g2⟩:=MMz g1 os
  refine⟨_,rfl,G1.trans G2,hfin (G1.trans G2) g2 (by unfold turn modS;rw[Arz]) hown _⟩
end Go.Proofs.YtblelojdboefjaaGreatDoor.R
namespace Go.Proofs.YtblelojdboefjaaGreatDoor.R
open Go
def Imz (ty bt:TypeId):Code:=
 .seq (.region 0 #[{dst:=some 2,op:= .assign (.const (.slice none 0 0)),type:=ty,pos:= "slices.go:355",after:= #[],guard:=none}] false)
  (.seq
   (.seq (.region 1 #[{dst:=some 3,op:= .move (.tmp 0),type:=ty,pos:= "slices.go:357",after:= #[],guard:=none},
     {dst:=some 4,op:= .binOp .eql ty (.tmp 3) (.const (.slice none 0 0)) ty,type:=bt,pos:= "slices.go:357",after:= #[{on:=0,ground:= .data}],guard:=none}] false)
    (.cond (.tmp 4) (.seq (.region 2 #[{dst:=some 2,op:= .assign (.const (.slice none 0 0)),type:=ty,pos:= "slices.go:358",after:= #[],guard:=none}] false) .ret) .skip))
   (.seq (.region 3 #[{dst:=some 5,op:= .buildSlice ty 0 #[],type:=ty,pos:= "slices.go:362",after:= #[],guard:=none},
     {dst:=some 6,op:= .move (.tmp 0),type:=ty,pos:= "slices.go:362",after:= #[],guard:=none},
     {dst:=some 7,op:= .call {callee:= .builtin .append,args:= #[.tmp 5,.tmp 6],argTypes:= #[ty,ty]},type:=ty,pos:= "slices.go:362",after:= #[{on:=0,ground:= .data},{on:=1,ground:= .data}],guard:=none},
     {dst:=some 2,op:= .assign (.tmp 7),type:=ty,pos:= "slices.go:362",after:= #[{on:=2,ground:= .data},{on:=2,ground:= .chain},{on:=0,ground:= .phase},{on:=1,ground:= .phase},{on:=2,ground:= .phase}],guard:=none}] false) .ret))
theorem T4z {P:Program} {T:Tys} (hT:TOk P T) {X:Ctx} {a:Act} {gv:List Value} {σ:St} (hg:Good X (All a gv) σ NoE) {N:Nat} (hN:N=a.tmps.size) {o:Oper} {d:Nat} {ty k:TypeId} {e:TypeId} {x:Operand} {f:Bool} {es:Nat} {rows:List (List PV)}
  (ho:o.op= .binOp .eql ty x (.const (.slice none 0 0)) k) (hd:o.dst=some d) (hdN:d<N) (hty:T.sl ty=some e) (hx:opd T N o.type (clear d σ) x= .c .one [.sh f (.s es rows)])
  {next:Act→World→Prop} {Q:Exit→Act→World→Prop} (hnext:∀b,(rows≠[]→b=false)→∀a' X',Goes X X'→Good X' (All a' gv) ((clear d σ).set d (pvSV (.b b))) NoE→a'.tmps.size=N→a'.defers=a.defers→next a' X'.w):o.wp P a X.w next Q:=by
 unfold Oper.wp
 obtain⟨X1,C⟩:=Fnz hg d
 have hb:Bare X1 (clear d σ) d:=⟨C.free,C.noBox,C.noOw,C.noBx⟩
 have hlen:N≤(clear d σ).length:=by
  rw[C.size,←hg.frame.1];unfold All;rw[List.length_append,Array.length_toList];omega
 have hdl:d<(clear d σ).length:=Nat.lt_of_lt_of_le hdN hlen
 have hxv:=Bcz C.good hN (T:=T) (ty:=o.type) x
 rw[hx]at hxv
 have h0:=hxv 0
 have:∃av n cap,a.eval x= .slice av n cap∧(rows≠[]→av.isNone=false):=by
  generalize a.eval x=v at h0
  cases h0 with
  |c _ _ ws _ hfl hc=>
   cases hfl with
   |one _ _=>
    cases hc with
    |cons _ _ _ _ _ hc _=>
     cases hc with
     |sh _ _ _ hrd=>
      cases hrd with
      |s0 av cap _=>exact⟨av,0,cap,rfl,fun h=>absurd rfl h⟩
      |s blk off n cap _ c elem fr _ _ _ _ _ _=>exact⟨_,n,cap,rfl,fun _=>rfl⟩
 obtain⟨av,n,cap,hv,hne⟩:=this
 have hr:(execOp a.eval o).run P X1.w= .ok (.value (.bool av.isNone)) X1.w:=by
  unfold execOp
  simp only[ho]
  refine Bhz ?_
  rw[hv]
  exact Lib.run_eql_slice_nil X1.w ty e av n cap 0 0 (hT.sl ty e hty)
 rw[←C.w,hr,Oper.upon_value]
 have hE:=Cvz C.good hb hdl (PureRes.same C.good.inv (d:=d) (v:= .bool av.isNone) (sv:=pvSV (.b av.isNone)) fun k=> .c .one _ [_] _ (.one _ (fun cs h=>by cases h)) (.cons _ _ _ _ _ (.sh _ _ _ (.b _)) (.nil _)))
 refine hnext av.isNone hne _ X1 (C.goes.trans hE.goes|>fun _=>C.goes) ?_ (by rw[Eyz];exact hN.symm) (Dtz a o.dst _)
 rw[hd,I7z (hN▸hdN)]
 exact hE.good
theorem J2z {P:Program} {ops:Array Oper} {Q:Exit→Act→World→Prop} {i:Nat} {l:List Nat} {X:Ctx} {a:Act} {gv:List Value} {σ:St} (hg:Good X (All a gv) σ NoE) {N:Nat} (hN:N=a.tmps.size) {o:Oper} (ho:ops[i]? =some o) (hgd:o.guard=none)
  (h:o.wp P a X.w (fun a' w'=>wpOps P ops Q l a' w') Q):wpOps P ops Q (i::l) a X.w:=by
 simp only[wpOps,ho]
 rw[DZz hg hN (ops:=ops) (o:=o) (b:=true) (by simp[Asz,hgd])]
 exact .inl h
theorem Scz {X:Ctx} {vs:List Value} {σ:St} {E:Nat→Nat→Prop} (hg:Good X vs σ E) {k:Nat} {sh sh':Shape} {l l':List CV} (hk:σ[k]? =some (.c sh l)) (hr:∀v,SVRel X k v (.c sh l)→SVRel X k v (.c sh' l')) (hc:∀p,(l.getD p .dead).isOw=(l'.getD p .dead).isOw)
  (hb:sh≠ .box):Good X vs (σ.set k (.c sh' l')) E:=by
 have hlt:k<σ.length:=(List.getElem?_eq_some_iff.1 hk).1
 refine⟨hg.inv,⟨by simpa using hg.frame.1,fun j v sv hv hs=> ?_⟩,⟨fun b s p q base tip ho=>(hg.tags.cell b s p q base tip ho).imp id fun h=> ?_,fun b s q base tip ho=> ?_⟩⟩
 ·by_cases hj:j=k
  ·subst hj
   rw[List.getElem?_set_self hlt]at hs
   injection hs with hs;subst hs
   exact hr v (hg.frame.2 j v _ hv hk)
  ·rw[List.getElem?_set_ne (Ne.symm hj)]at hs
   exact hg.frame.2 j v sv hv hs
 ·by_cases hj:s=k
  ·subst hj
   rw[Blz hk]at h
   rw[Blz (List.getElem?_set_self hlt),←hc]
   exact h
  ·unfold ABz at h ⊢
   rw[List.getD_eq_getElem?_getD]at h ⊢
   rw[List.getElem?_set_ne (Ne.symm hj)]
   exact h
 ·obtain⟨l1,h1⟩:=hg.tags.box b s q base tip ho
  by_cases hj:s=k
  ·subst hj
   rw[hk]at h1
   injection h1 with h1;injection h1 with h1 _
   exact absurd h1 hb
  ·exact⟨l1,by rw[List.getElem?_set_ne (Ne.symm hj)];exact h1⟩
theorem RAz {P:Program} {T:Tys} (hT:TOk P T) (hmo:T.mo=false) (hm:P.follows .mixedOrders=true) {call:CallF} (hcall:Bvz P call) {f:FuncId} {fn:Func} {ty bt e:TypeId} {es bs:Nat} {z:List PV} (hfn:P.funcs[f]? =some fn) (hname:(fn.name== "runtime.NumGoroutine")=false)
  (hb:fn.body=some (Imz ty bt)) (hnt:fn.ntmps=8) (hres:fn.results= #[.tmp 2]) (h1:T.sl ty=some e) (h2:T.sz e=some es) (h3:T.byt e=some bs) (h4:T.zr e=some z) (hz:z.length=es) (hbs:bs≠0) {zs:Bool} (hzs:zs=z.all PV.scalar)
  {args:List SV} {b:List (List CV)} {r:Ret} (hr:Brz es bs zs call args b=some r):
  ∃N,args.length≤N∧∀(X:Ctx) (argv gv:List Value),argv.length=args.length→Good X (argv++List.replicate (N - args.length) undef++gv) (args.map (Biz N)++List.replicate (N - args.length) .undef++b.map (.c .box)) NoE→
   Lands P f argv.toArray X.w fun v w'=>∃X',X'.w=w'∧Goes X X'∧Good X' (v::gv) (r.res::r.boxes.map (.c .box)) NoE:=by
 unfold Brz at hr
 split at hr
 case h_2=>simp at hr
 rename_i fl es' rows
 split at hr
 case isFalse=>simp at hr
 rename_i hcond
 obtain⟨rfl,hlim,hpl⟩:=hcond
 have hk:FQz T e fl rows=some (fl&& !zs):=by
  unfold FQz
  rw[h4]
  cases zs with
  |true=>simp only;rw[if_pos hzs.symm,if_pos (hpl rfl)];simp
  |false=>simp only;rw[if_neg (by rw[←hzs];simp)];simp
 injection hr with hr;subst hr
 let E:Env:=⟨T,fun _=>none,fun _=>none,fun _ _=>[],fun _=>[],fun _=>false,fun _=>false,fun _=>false⟩
 refine P5z hT hfn hname hb (by rw[hnt];exact Nat.le_of_ble_eq_true rfl) fun gv X a Q hg hN hQ=> ?_
 rw[hnt]at hg hN
 simp only[List.length_cons,List.length_nil,Nat.zero_add,Nat.reduceSub,List.map_cons,List.map_nil,Biz,List.append_nil,List.replicate,List.cons_append,List.nil_append]at hg
 have hE:E.T=T:=rfl
 have hconst:DUz T ty (.slice none 0 0)= .c .one [.ow false es' []]:=by simp[DUz,h1,h2]
 have hL:∀(rows:List (List PV)) (σ:St),σ[2]? =some (.c .one [.ow (fl&& !zs) es' rows])→Leaves T fn 0 σ ⟨.c .one [.ow (fl&& !zs) es' rows],[]⟩:=fun rows σ h=>by
  refine⟨(off 2 0 σ,[(false,1)],[.ow (fl&& !zs) es' rows]),off 2 0 σ,[],?_,rfl,rfl,rfl,rfl⟩
  rw[hres,hnt]
  simp[BGz,EKz,opd,List.getD_eq_getElem?_getD,h,SV.view,Acz,CV.view,KLz,Dfz,Enz,weaken,ATz,persist,keeps,Dgz,ABz,CV.isOw]
 unfold Imz
 refine wp_seq (Cgz (E:=E) (n:=0) hT hcall hm _ hg hN (r:=(.normal,[.c .one [.sh fl (.s es' rows)],.undef,.c .one [.ow false es' []],.undef,.undef,.undef,.undef,.undef])) ?_ ?_)
 ·simp[AGz,AYz,Asz,AJz,BLz,Bdz,ALz,Cyz,clear,opd,hconst,ATz,persist,keeps,Dgz,hE,hmo,List.range,List.range.loop]
 intro a1 X1 G1 hg1 hs1 hd1
 simp only at hg1
 refine wp_seq (wp_seq (wp_region ?_))
 show wpOps P _ _ [0,1] a1 X1.w
 refine J2z hg1 hs1.symm rfl rfl (Ixz (E:=E) hT hcall hg1 hs1.symm (σ':=[.c .one [.sh fl (.s es' rows)],.undef,.c .one [.ow false es' []],.c .one [.sh fl (.s es' rows)],.undef,.undef,.undef,.undef]) ?_ ?_)
 ·simp[AJz,BLz,Bdz,ALz,clear,opd,SV.view,Acz,CV.view]
 intro a2 X2 G2 hg2 hs2 hd2
 refine J2z hg2 hs2.symm rfl rfl (T4z hT hg2 hs2.symm rfl rfl (Nat.le_of_ble_eq_true rfl) h1 (f:=fl) (es:=es') (rows:=rows) ?_ ?_)
 ·simp[clear,opd,SV.view,Acz,CV.view]
 intro b hb0 a3 X3 G3 hg3 hs3 hd3
 simp only[clear,List.getD_cons_succ,List.getD_cons_zero,List.set_cons_succ,List.set_cons_zero]at hg3
 simp only[wpOps,Exit.then]
 cases b with
 |true=>
  have hrows:rows=[]:=Classical.byContradiction fun h=>by have:=hb0 h;cases this
  subst hrows
  refine Cgz (E:=E) (n:=0) hT hcall hm _ hg3 hs3.symm (r:=(.ret,[.c .one [.sh fl (.s es' [])],.undef,.c .one [.ow false es' []],.c .one [.sh fl (.s es' [])],pvSV (.b true),.undef,.undef,.undef])) ?_ ?_
  ·simp[AGz,AYz,Asz,AJz,BLz,Bdz,ALz,Cyz,clear,opd,hconst,ATz,persist,keeps,Dgz,hE,hmo,List.range,List.range.loop,pvSV,SV.view,Acz,CV.view,SV.bool?,SV.pv?,SV.one?,CV.p?,Abz,ABz,CV.isOw,demote,Afz,SV.mapC,demC]
  intro a4 X4 G4 hg4 hs4 hd4
  simp only at hg4
  have hg5:=Scz hg4 (k:=2) (sh':= .one) (l':=[.ow (fl&& !zs) es' []]) rfl (fun v h=>by
   cases h with
   |c _ _ ws _ hfl hc=>
    cases hfl with
    |one _ hna=>
     cases hc with
     |cons _ _ _ _ _ hc ht=>
      refine .c .one _ [_] _ (.one _ hna) (.cons _ _ _ _ _ ?_ (.nil _))
      cases hc with
      |ow0 _ _ a=>exact .ow0 (fl&& !zs) es' a
      |ow _ _ _ _ blk off cap c elem fr h=>exact .ow (fl&& !zs) es' [] _ blk off cap c elem fr ⟨h.val,h.le,h.own,h.cells,h.fits,h.loose,.nil _ _ _ _ _⟩) (fun p=>by cases p<;>rfl) (by simp)
  exact hQ .ret _ a4 X4 (.inr rfl) (hL [] _ rfl) (((G1.trans G2).trans G3).trans G4) hg5 (by rw[hs4,hnt]) (by rw[hd4,hd3,hd2,hd1])
 |false=>
  refine Cgz (E:=E) (n:=0) hT hcall hm _ hg3 hs3.symm (r:=(.normal,[.c .one [.sh fl (.s es' rows)],.undef,.c .one [.ow false es' []],.c .one [.sh fl (.s es' rows)],pvSV (.b false),.undef,.undef,.undef])) ?_ ?_
  ·simp[AGz,opd,pvSV,SV.view,Acz,CV.view,SV.bool?,SV.pv?,SV.one?,CV.p?]
  intro a4 X4 G4 hg4 hs4 hd4
  simp only[exOf,Exit.then]at hg4 ⊢
  refine Cgz (E:=E) (n:=0) hT hcall hm _ hg4 hs4.symm (r:=(.ret,[.c .one [.sh fl (.s es' rows)],.undef,.c .one [.ow (fl&& !zs) es' rows],.c .one [.sh fl (.s es' rows)],pvSV (.b false),.c .one [.br 2 0 [] 2 0 false es' []],.c .one [.sh fl (.s es' rows)],.c .one [.br 2 0 [] 0 0 (fl&& !zs) es' rows]])) ?_ ?_
  ·simp[AGz,AYz,Asz,AJz,BLz,Bdz,ALz,Cyz,clear,opd,hconst,ATz,persist,keeps,Dgz,hE,hmo,List.range,List.range.loop,pvSV,SV.view,Acz,CV.view,Abz,ABz,CV.isOw,demote,Afz,SV.mapC,demC,h1,h2,h3,h4,hz,Aqz,Dnz,KEz,offO,A4z,HKz,hk,SV.one?,CV.p?,hbs,hlim,move,mvC,epTo]
  intro a5 X5 G5 hg5 hs5 hd5
  simp only at hg5
  exact hQ .ret _ a5 X5 (.inr rfl) (hL rows _ rfl) ((((G1.trans G2).trans G3).trans G4).trans G5) hg5 (by rw[hs5,hnt]) (by rw[hd5,hd4,hd3,hd2,hd1])
theorem Jwz {P:Program} {T:Tys} (hT:TOk P T) (hm:P.follows .mixedOrders=true) {call:CallF} (hcall:Bvz P call) {f:FuncId} {fn:Func} {ty bt e:TypeId} {es bs:Nat} {z:List PV} (hfn:P.funcs[f]? =some fn) (hname:(fn.name== "runtime.NumGoroutine")=false)
  (hb:fn.body=some (Imz ty bt)) (hnt:fn.ntmps=8) (hres:fn.results= #[.tmp 2]) (h1:T.sl ty=some e) (h2:T.sz e=some es) (h3:T.byt e=some bs) (h4:T.zr e=some z) (hz:z.length=es) (hbs:bs≠0) {zs:Bool} (hzs:zs=z.all PV.scalar)
  {args:List SV} {b:List (List CV)} {r:Ret} (hr:Brz es bs zs call args b=some r):
  ∃N,args.length≤N∧∀(X:Ctx) (argv gv:List Value),argv.length=args.length→Good X (argv++List.replicate (N - args.length) undef++gv) (args.map (Biz N)++List.replicate (N - args.length) .undef++b.map (.c .box)) NoE→
   Lands P f argv.toArray X.w fun v w'=>∃X',X'.w=w'∧Goes X X'∧Good X' (v::gv) (r.res::r.boxes.map (.c .box)) NoE:=
 RAz (T:={T with mo:=false}) ⟨hT.sl,hT.sz,hT.byt,hT.ag1,hT.ag0,hT.zr,hT.fo,hT.fz,hT.fi,hT.ik,hT.str,hT.boo,hT.so,hT.eqs⟩ rfl hm hcall hfn hname hb hnt hres h1 h2 h3 h4 hz hbs hzs hr
end Go.Proofs.YtblelojdboefjaaGreatDoor.R
namespace Go.Proofs.YtblelojdboefjaaGreatDoor.R
open Go Go.Sort Go.Shelf Go.RowKit
theorem MGz:∀{rows:List (List PV)} {l:List Int},ints? rows=some l→rows=l.map fun x=>[.i .i64 x]
 |[],l,h=>by simp[ints?]at h;subst h;rfl
 |r::rows,l,h=>by
  unfold ints? at h
  split at h
  ·rename_i e;cases e
  ·rename_i s l' e
   injection e with e1 e2
   subst e1;subst e2
   obtain⟨m,h1,h2⟩:=AHz h
   subst h2
   rw[MGz h1]
   rfl
  ·simp at h
theorem Tvz {c:Array Value} {off:Nat} {l:List Int} (h:off+l.length≤c.size) {hp:Array Obj} {V:Nat→Prop}:RdRows hp V (putCells (Value.int .i64) off l.toArray c) off 1 (l.map fun x=>[.i .i64 x]):=by
 refine RdRows.mk fun i row hi=> ?_
 rw[List.getElem?_map]at hi
 obtain⟨x,hx,rfl⟩:=AHz hi
 have hlt:i<l.length:=(List.getElem?_eq_some_iff.1 hx).1
 refine⟨rfl,RdRow.mk fun j p hj=> ?_⟩
 have hj0:j=0:=by
  have:=(List.getElem?_eq_some_iff.1 hj).1
  simp at this;exact this
 subst hj0
 simp at hj
 subst hj
 refine⟨Value.int .i64 x,?_,.i _ _⟩
 unfold putCells
 rw[Array.getElem?_mapIdx,Nat.mul_one,Nat.add_zero,Array.getElem?_eq_getElem (by omega),Option.map_some,if_pos ⟨by omega,by simp;omega⟩]
 congr 2
 rw[show off+i - off=i from by omega,getElem!_pos _ i (by simpa using hlt)]
 have:=List.getElem?_eq_getElem hlt
 rw[hx]at this
 injection this with this
 simpa using this.symm
theorem QOz {P:Program} {ρ:Ren} (L:Lays.n189 P ρ) {fn:Func} (hf:P.funcs[ρ.f 189]? =some fn) (hn:(fn.name== "runtime.NumGoroutine")=false) {cd:Code} (hb:fn.body=some cd):DWz P (ρ.f 189) sortIntOrc:=by
 intro X vs σ σ' args svs sv d hg hlen hrel h hd hown hnow hbox
 unfold sortIntOrc at h
 split at h
 case h_2=>simp at h
 rename_i s o f es rows
 split at h
 case h_2=>simp at h
 rename_i f' rows' hcell
 split at h
 case isFalse=>simp at h
 rename_i hcond
 obtain⟨l,h1,h2⟩:=AHz h
 match args,hlen with
 |[v],_=>
 have hv:∀k j,CVRel X k j v (.br s o [] 0 0 f es rows):=fun k j=>by
  have:=hrel 0 v _ rfl rfl k
  cases this with
  |c _ _ ws _ hfl hc=>
   cases hfl with
   |one _ _=>
    cases hc with
    |cons _ _ _ _ _ hc _=>exact Itz hc k j
 have hlr:=MGz h1
 have hfin:∀{X':Ctx} {σ2:St},Goes X X'→Good X' vs σ2 NoE→σ2.length=σ.length→(∀b p q base tip,X'.own b≠some (d,p,q,base,tip))→∀u,Good X' (vs.set d u) (σ2.set d .undef) NoE:=fun{X' σ2} G g hs ho u=>
  DIz g (fun _ _ e=>e.elim) (.refl X') g.inv (by rw[hs];exact hd) (fun b t h=> .inl h) (fun b q base tip=>ho b 0 q base tip) (.undef u) (fun b p q base tip e=>absurd e (ho b _ q base tip)) (fun b q base tip e=>absurd e (ho b 0 q base tip))
 by_cases h0:rows'.length=0
 ·rw[if_pos h0]at h2
  injection h2 with h2 h3;subst h2;subst h3
  have hr0:rows=[]:=List.length_eq_zero_iff.1 (hcond.1.trans h0)
  subst hr0
  have hva:∃a cap,v= .slice a 0 cap:=by
   cases hv 0 0 with
   |br0 _ _ _ _ _ _ _ a=>exact⟨a,0,rfl⟩
   |br _ _ _ _ _ _ _ _ _ blk base tip cap c elem fr h=>exact⟨_,cap,h.val⟩
  obtain⟨a,cap,rfl⟩:=hva
  refine Hbz hf hn hb ((Any.slices_Sort_int_none L a cap X.w).mono ?_)
  rintro e w' ⟨rfl,rfl⟩
  exact⟨X,rfl,.refl X,hfin (.refl X) hg rfl hown _⟩
 ·rw[if_neg h0]at h2
  injection h2 with h2 h3;subst h2;subst h3
  obtain⟨blk,base,cap,c,elem,fr,rfl,hle,ho,hc,hfr,hfit,hrd⟩:=Kaz hg hv hcell h0 hcond.1
  have hll:l.length=rows'.length:=by rw[hlr,List.length_map]
  have hH:Holds (Value.int .i64) X.w blk base l.toArray:=fun j hj=>by
   have hj':j<l.length:=by simpa using hj
   obtain⟨g1,g2⟩:=hrd.get j [.i .i64 l[j]] (by rw[hlr,List.getElem?_map,List.getElem?_eq_getElem hj'];rfl)
   obtain⟨x,hx,hr⟩:=g2.get 0 _ rfl
   cases hr with|rd _ _ _ hr=>
   cases hr
   rw[Nat.mul_one,Nat.add_zero]at hx
   refine⟨?_,?_⟩
   ·rw[CWz hc,hx,getElem!_pos _ j hj];simp
   ·have:=hfr (base+j) (Array.getElem?_eq_some_iff.1 hx).1
    simp only[World.frozen?,hc]
    simpa using this
  have hblk:blk<X.w.heap.size:=(hg.inv.own blk _ ho).1
  have hrun:=Any.slices_Sort_int L blk base cap l X.w hH hblk (by rw[hll];exact hcond.2)
  rw[hll,←LIz]at hrun
  refine Hbz hf hn hb (hrun.mono ?_)
  rintro e w' ⟨rfl,n,os,rfl⟩
  have hsl:(Dbz l).length=l.length:=(DSz _ l).length_eq
  have hW:=Lkz (Value.int .i64) (n:=n) (off:=base) hc (Dbz l).toArray
  obtain⟨G1,g1⟩:=FZz hg hW ho hc (by simp[putCells]) (P7z hcell) (rows':=(Dbz l).map fun x=>[.i .i64 x]) (f':=false) (by rw[List.length_map,hsl,hll])
   ((Tvz (by rw[hsl,hll];omega)).asO [] 0)
  obtain⟨G2,g2⟩:=MMz g1 os
  refine⟨_,rfl,G1.trans G2,hfin (G1.trans G2) g2 (by unfold turn modS;rw[Arz]) hown _⟩
end Go.Proofs.YtblelojdboefjaaGreatDoor.R
namespace Go.Proofs.YtblelojdboefjaaGreatDoor.R
open Go Go.Sort Go.Shelf Go.RowKit
end Go.Proofs.YtblelojdboefjaaGreatDoor.R
namespace Go.Proofs.YtblelojdboefjaaGreatDoor.R
open Go Go.Sort Go.Shelf Go.RowKit
end Go.Proofs.YtblelojdboefjaaGreatDoor.R
