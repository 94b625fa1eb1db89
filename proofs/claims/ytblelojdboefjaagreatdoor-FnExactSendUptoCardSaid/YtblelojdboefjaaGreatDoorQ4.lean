/- The operations that do nothing but answer: parts of results, literals, new rows; and all of them together. -/
import Derived.IntWalk
import Derived.Deep.AppendSrc
import Derived.Deep.Upon
import Derived.Test.YtblelojdboefjaaGreatDoorQ2
set_option linter.all false
namespace Go.Proofs.YtblelojdboefjaaGreatDoor.R
open Go
theorem H5z {X:Ctx}:∀{vs ws:List Value} {l:List CV},VCells X (vs++ws) l→VCells X vs (l.take vs.length)∧VCells X ws (l.drop vs.length)
 |[],ws,l,h=>⟨by simpa using VCells.nil,by simpa using h⟩
 |v::vs,ws,l,h=>by
  cases h with
  |cons _ c _ l hc ht=>
   obtain⟨h1,h2⟩:=H5z ht
   exact⟨by simpa using VCells.cons v c _ _ hc h1,by simpa using h2⟩
theorem P1z {X:Ctx}:∀{s:List (Bool×Nat)} {i:Nat} {vs:List Value} {fs:List (List Value)} {l:List CV} {y:SV},fs.length=s.length→vs.length=s.length→
  (∀(i:Nat) (v:Value) (a:Bool) (n:Nat) (f:List Value),vs[i]? =some v→s[i]? =some (a,n)→fs[i]? =some f→f.length=n∧((a=true∧∃cs:Array Value,v= .agg cs∧f=cs.toList)∨(a=false∧f=[v]∧∀cs,v≠ .agg cs)))→
  VCells X fs.flatten l→comp i s l=some y→∃v,vs[i]? =some v∧OSV X v y
 |[],i,vs,fs,l,y,h1,h2,h3,hc,h=>by simp[comp]at h
 |(a,n)::s,i,vs,fs,l,y,h1,h2,h3,hc,h=>by
  cases fs with
  |nil=>simp at h1
  |cons f fs=>
   cases vs with
   |nil=>simp at h2
   |cons v vs=>
    obtain⟨hn,hsh⟩:=h3 0 v a n f rfl rfl rfl
    rw[List.flatten_cons]at hc
    obtain⟨c1,c2⟩:=H5z hc
    rw[hn]at c1 c2
    cases i with
    |zero=>
     simp only[comp]at h
     split at h
     ·simp at h
     ·injection h with h;subst h
      refine⟨v,rfl,?_⟩
      rcases hsh with⟨rfl,cs,rfl,rfl⟩|⟨rfl,rfl,hna⟩
      ·exact D6z (.agg cs) c1
      ·exact D6z (.one v hna) c1
    |succ i=>
     simp only[comp]at h
     obtain⟨u,hu,ho⟩:=P1z (s:=s) (i:=i) (vs:=vs) (fs:=fs) (by simpa using h1) (by simpa using h2) (fun j=>by
      intro v a n f e1 e2 e3
      exact h3 (j+1) v a n f (by simpa using e1) (by simpa using e2) (by simpa using e3)) c2 h
     exact⟨u,by simpa using hu,ho⟩
theorem Krz {P:Program} {X:Ctx} {v:Value} {s:List (Bool×Nat)} {l:List CV} {i:Nat} {y:SV} (hx:OSV X v (.c (.tup s) l)) (h:comp i s l=some y):∃v',(∀w,(Instr.extract v i).run P w= .ok v' w)∧OSV X v' y:=by
 obtain⟨ws,hf,hc⟩:=CGz hx (fun e=>nomatch e)
 cases hf with
 |tup _ vs fs h1 h2 h3=>
  obtain⟨v',hv,ho⟩:=P1z (vs:=vs.toList) h1 (by simpa using h2) (fun j v a n f e1 e2 e3=>h3 j v a n f (by simpa using e1) e2 e3) hc h
  have hv':vs[i]? =some v':=by simpa using hv
  refine⟨v',fun w=> ?_,ho⟩
  simp only[Instr.extract,hv']
  rfl
theorem IAz {α:Type} (c:α):∀(l:List α) (k:Nat),k<l.length→(l.set k c).take (k+1)=l.take k++[c]
 |[],k,h=>by simp at h
 |x::l,0,h=>by simp
 |x::l,k+1,h=>by simp only[List.set_cons_succ,List.take_succ_cons,List.cons_append];rw[IAz c l k (by simpa using h)]
theorem Iiz {α:Type} (c:α):∀(l:List α) (k m:Nat),k<m→(l.set k c).drop m=l.drop m
 |[],k,m,h=>by simp
 |x::l,0,m+1,h=>by simp
 |x::l,k+1,m+1,h=>by simp only[List.set_cons_succ,List.drop_succ_cons];exact Iiz c l k m (by omega)
theorem Ngz (off:Nat):∀(cs:List Value) (k:Nat) (z:Array Value),off+k+cs.length≤z.size→
  ((cs.zipIdx k).foldl (fun(a:Array Value) (p:Value×Nat)=>a.setIfInBounds (off+p.2) p.1) z).toList=z.toList.take (off+k)++cs++z.toList.drop (off+k+cs.length)
 |[],k,z,h=>by simp
 |c::cs,k,z,h=>by
  simp only[List.zipIdx_cons,List.foldl_cons]
  rw[Ngz off cs (k+1) _ (by simp at h ⊢;omega)]
  simp only[Array.toList_setIfInBounds]
  simp at h
  have hk:off+k<z.toList.length:=by simp;omega
  rw[show off+(k+1)=off+k+1 from by omega]
  rw[IAz _ _ _ hk,Iiz _ _ _ _ (by omega)]
  simp only[List.append_assoc,List.singleton_append,List.length_cons,List.cons_append,List.nil_append]
  rw[show off+k+1+cs.length=off+k+(cs.length+1)from by omega]
theorem Nhz (cs:Array Value) (off:Nat) (z:Array Value) (h:off+cs.size≤z.size):
  (cs.zipIdx.foldl (fun(a:Array Value) (p:Value×Nat)=>a.setIfInBounds (off+p.2) p.1) z).toList=z.toList.take off++cs.toList++z.toList.drop (off+cs.size):=by
 rw[←Array.foldl_toList]
 have:=Ngz off cs.toList 0 z (by simpa using h)
 simpa using this
theorem D4z {X:Ctx} {v:Value} {x:SV} {cs:List CV} (hx:OSV X v x) (h:cells? x=some cs):VCells X v.cells.toList cs∧((x= .c .one cs∧∃c,cs=[c])∨x= .c .agg cs):=by
 unfold cells? at h
 split at h
 ·rename_i c
  injection h with h;subst h
  obtain⟨vs,hf,hc⟩:=CGz hx (fun e=>nomatch e)
  cases hf with
  |one _ hn=>
   refine⟨?_,.inl ⟨rfl,c,rfl⟩⟩
   have:v.cells= #[v]:=by
    unfold Value.cells
    cases v<;>first|rfl|exact absurd rfl (hn _)
   rw[this];exact hc
 ·rename_i l
  injection h with h;subst h
  obtain⟨vs,hf,hc⟩:=CGz hx (fun e=>nomatch e)
  cases hf with
  |agg cs=>exact⟨hc,.inr rfl⟩
 ·simp at h
theorem U6z {X:Ctx} {f:Bool} {p:PV} (h:p.scalar=true∨∃es,p= .s es []):∀k j,CVRel X k j p.val (p.cv f):=by
 intro k j
 rcases h with h|⟨es,rfl⟩
 ·have:p.cv f= .sh false p:=by cases p<;>first|rfl|simp[PV.scalar]at h
  rw[this];exact .sh false p _ (FHz h)
 ·exact .ow0 false es none
theorem HGz {X:Ctx} {f:Bool}:∀{l:List PV},(∀p∈l,p.scalar=true∨∃es,p= .s es [])→VCells X (l.map PV.val) (l.map (PV.cv f))
 |[],_=> .nil
 |p::l,h=> .cons _ _ _ _ (U6z (h p (by simp))) (HGz fun q hq=>h q (by simp[hq]))
theorem Exz {P:Program} {T:Tys} (hT:TOk P T) {w:World} {t:TypeId} {l:List PV} (h:T.zr t=some l):∃v,(zeroValue t).run P w= .ok v w∧v.cells.toList=l.map PV.val∧(∀p∈l,p.scalar=true∨∃es,p= .s es []):=by
 obtain⟨i,v,hi,hz,hc,hp⟩:=hT.zr t l h
 exact⟨v,by simp[zeroValue,LLz hi,hz],hc,hp⟩
theorem Qiz {X:Ctx} {vs ws:List Value} {l m:List CV} (h:VCells X vs l) (h':VCells X ws m) (d:Nat):VCells X (ws.take d++vs++ws.drop (d+vs.length)) (lay l d m):=by
 unfold lay
 rw[←h.length]
 exact((h'.take d).append h).append (h'.drop _)
theorem M1z {P:Program} {w:World} {α β:Type} {f:α→Sem β} {g:α→β}:∀{l:List α},(∀x∈l,(f x).run P w= .ok (g x) w)→(l.mapM f).run P w= .ok (l.map g) w
 |[],_=>rfl
 |x::l,h=>by
  simp only[List.mapM_cons,Sem.run_bind,h x (by simp),Result.andThen_ok,M1z (l:=l) fun y hy=>h y (by simp[hy])]
  rfl
theorem Lxz {P:Program} {w:World} {α β:Type} {f:α→Sem β} {g:α→β} {a:Array α} (h:∀x∈a,(f x).run P w= .ok (g x) w):(a.mapM f).run P w= .ok (a.map g) w:=by
 rw[Array.mapM_eq_mapM_toList,Sem.run_map,M1z (g:=g) (fun x hx=>h x (by simpa using hx))]
 simp only[Result.andThen_ok]
 congr 1
 apply Array.ext'
 simp
theorem N3z {T:Tys} {P:Program} (hT:TOk P T) {X:Ctx} {t:TypeId} {place:Nat→Option (Nat×Nat)} (hp:∀i d n,T.fo t i=some d→T.fz t i=some n→place i=some (d,n)):
    ∀{ps:List (Nat×SV)} {vs:List (Nat×Value)} {l l':List CV} {z:Array Value},ps.map (·.1)=vs.map (·.1)→OSVs X (vs.map (·.2)) (ps.map (·.2))→VCells X z.toList l→Dkz T t ps l=some l'→
      ∃z',Instr.fill place z vs=some z'∧VCells X z'.toList l'
  |[],vs,l,l',z,h1,h2,hc,h=>by
    have:vs=[]:=by cases vs with|nil=>rfl|cons _ _=>simp at h1
    subst this
    simp only[Dkz]at h;injection h with h;subst h
    exact⟨z,rfl,hc⟩
  |(i,x)::ps,vs,l,l',z,h1,h2,hc,h=>by
    cases vs with
    |nil=>simp at h1
    |cons p vs=>
      obtain⟨i',v⟩:=p
      simp at h1
      obtain⟨rfl,h1⟩:=h1
      simp only[List.map_cons]at h2
      cases h2 with
      |cons _ _ _ _ hv ht=>
        simp only[Dkz]at h
        obtain⟨d,e1,h⟩:=AAz h
        obtain⟨cs,e2,h⟩:=AAz h
        split at h
        · rename_i hle
          obtain⟨hc1,_⟩:=D4z hv e2
          have hlen:=hc1.length
          have hsz:v.cells.size=cs.length:=by simpa using hlen
          have hz:=hc.length
          have hlay:=Qiz hc1 hc d
          have hf : d + v.cells.size ≤ z.size := by have : z.size = l.length := by simpa using hz
                                                    omega
          have hfold:=Nhz v.cells d z hf
          have hc':VCells X (v.cells.zipIdx.foldl (fun(a:Array Value) (p:Value×Nat)=>a.setIfInBounds (d+p.2) p.1) z).toList (lay cs d l):=by
            rw[hfold]
            simpa using hlay
          obtain⟨z',r,hz'⟩:=N3z hT hp (ps:=ps) (vs:=vs) h1 ht hc' h
          refine⟨z',?_,hz'⟩
          simp only[Instr.fill,hp i d _ e1 hle.2]
          rw[if_neg (by simp[hsz];rw[←hsz];omega)]
          exact r
        · simp at h
theorem Ukz {P:Program} {T:Tys} (hT:TOk P T) {X:Ctx} {t:TypeId} {z:List PV} {parts:List (Nat×Value)} {ps:List (Nat×SV)} {l:List CV} (hz:T.zr t=some z) (ha:T.ag t=some true) (h1:ps.map (·.1)=parts.map (·.1))
  (h2:OSVs X (parts.map (·.2)) (ps.map (·.2))) (h:Dkz T t ps (z.map (PV.cv false))=some l):∃v,(Instr.build t parts.toArray).run P X.w= .ok v X.w∧OSV X v (.c .agg l):=by
 obtain⟨fs,hu⟩:=hT.ag1 t ha
 obtain⟨v0,hr,hc,hp⟩:=Exz (w:=X.w) hT hz
 have hfi:=hT.fi t fs ha hu
 let g:Field→Nat×Nat:=fun f=>(f.offset,((P.info? f.type).map (·.size)).getD 0)
 have hplaces:∀i d n,T.fo t i=some d→T.fz t i=some n→(fs.map g)[i]? =some (d,n):=by
  intro i d n e1 e2
  obtain⟨fs1,fl1,i1,hu1,hf1,ho1,hi1,_⟩:=hT.fo t i d e1
  obtain⟨fs2,fl2,i2,hu2,hf2,hi2,hs2⟩:=hT.fz t i n e2
  rw[hu]at hu1 hu2
  injection hu1 with hu1;injection hu1 with hu1;subst hu1
  injection hu2 with hu2;injection hu2 with hu2;subst hu2
  rw[hf1]at hf2;injection hf2 with hf2;subst hf2
  simp[hf1,g,ho1,hi2,hs2]
 obtain⟨z',hfill,hz'⟩:=N3z hT hplaces (z:=v0.cells) h1 h2 (by rw[hc];exact HGz hp) h
 refine⟨.agg z',?_,D6z (.agg z') hz'⟩
 unfold Instr.build
 simp only[Sem.run_bind,hr,Result.andThen_ok,A9z hu]
 rw[Lxz (g:=g) (fun f hf=>by
  obtain⟨i,hi⟩:=hfi f hf
  simp[Dqz hi,g,hi])]
 simp only[Result.andThen_ok,hfill]
 rfl
def BSz (z:Array Value) (m:Nat):Array Value:=(Array.range m).map (z[· % z.size]!)
theorem Ebz (z:Array Value) (m:Nat):(BSz z m).size=m:=by simp[BSz]
theorem VSz {h:Array Obj} {V:Nat→Prop} {p:PV} (hp:p.scalar=true∨∃es,p= .s es []):Rd h V p.val p:=by
 rcases hp with hp|⟨es,rfl⟩
 ·exact FHz hp
 ·exact .s0 none 0 es
theorem RJz {h:Array Obj} {V:Nat→Prop} {z:Array Value} {ps:List PV} (hz:z.toList=ps.map PV.val) (hp:∀p∈ps,p.scalar=true∨∃es,p= .s es []) (n:Nat):
  RdRows h V (BSz z (n*ps.length)) 0 ps.length (List.replicate n ps):=by
 have hsz:z.size=ps.length:=by have:=congrArg List.length hz;simpa using this
 refine RdRows.mk fun i row hi=> ?_
 have hin:i<n:=by have:=(List.getElem?_eq_some_iff.1 hi).1;simpa using this
 have:row=ps:=by
  have:=(List.getElem?_eq_some_iff.1 hi).2
  simpa using this.symm
 subst this
 refine⟨rfl,RdRow.mk fun j p hj=> ?_⟩
 have hjl:=(List.getElem?_eq_some_iff.1 hj).1
 have hlt:i*row.length+j<n*row.length:=by
  have:(i+1)*row.length≤n*row.length:=Nat.mul_le_mul_right _ hin
  rw[Nat.add_mul]at this;omega
 have hmod:(i*row.length+j) % z.size=j:=by
  rw[hsz,Nat.add_comm,Nat.add_mul_mod_self_right,Nat.mod_eq_of_lt hjl]
 refine⟨p.val,?_,VSz (hp p (List.mem_of_getElem? hj))⟩
 have hzj:z[j]? =some p.val:=by
  have h2:z.toList[j]? =some p.val:=by rw[hz,List.getElem?_map,hj];rfl
  simpa using h2
 have hjz:=(Array.getElem?_eq_some_iff.1 hzj).1
 simp only[BSz,Array.getElem?_map,Nat.zero_add]
 rw[Array.getElem?_range,if_pos hlt]
 simp only[Option.map_some,hmod]
 rw[getElem!_pos z j hjz]
 rw[←(Array.getElem?_eq_some_iff.1 hzj).2]
theorem Gkz {z:Array Value} {n m:Nat} (h:m=0→n=0):(Array.range n).map ((if m=0 then #[]else z)[· % (if m=0 then(#[]:Array Value)else z).size]!)=BSz z n:=by
 by_cases hm:m=0
 ·have:=h hm;subst this;simp[BSz]
 ·simp[hm,BSz]
theorem Kmz (n:Nat):free (0,0) n:=fun o _ h=>by omega
def zoIf (mo:Bool) (z:List PV):List PV:=if mo then z.map PV.zo else z
theorem T0z {h:Array Obj} {V:Nat→Prop} {own:Nat→Option Own} {s p:Nat} {q:Path} {x:PV} (hx:x.scalar=true∨∃es,x= .s es []):ORd h V own s p q x.val x.zo:=by
 rcases hx with hx|⟨es,rfl⟩
 ·have:x.zo=x:=by cases x<;>first|rfl|simp[PV.scalar]at hx
  rw[this];exact .rd _ _ _ (FHz hx)
 ·exact .o0 q none es
theorem HFz {h:Array Obj} {V:Nat→Prop} {own:Nat→Option Own} {s p:Nat} {z:Array Value} {ps:List PV} (mo:Bool) (hz:z.toList=ps.map PV.val) (hp:∀p∈ps,p.scalar=true∨∃es,p= .s es []) (n:Nat):
  ORows h V own s p [] 0 (BSz z (n*ps.length)) 0 ps.length (List.replicate n (zoIf mo ps)):=by
 have h0:=RJz (h:=h) (V:=V) hz hp n
 cases mo with
 |false=>exact h0.asO [] 0
 |true=>
  refine ORows.mk fun i row hi=> ?_
  have hin:i<n:=by have:=(List.getElem?_eq_some_iff.1 hi).1;simpa using this
  have:row=ps.map PV.zo:=by
   have:=(List.getElem?_eq_some_iff.1 hi).2
   simpa[zoIf]using this.symm
  subst this
  obtain⟨_,g2⟩:=h0.get i ps (by simp[hin])
  refine⟨by simp,ORow.mk fun j x hj=> ?_⟩
  rw[List.getElem?_map]at hj
  cases e:ps[j]? with
  |none=>simp[e]at hj
  |some y=>
   simp[e]at hj;subst hj
   obtain⟨u,hu,hr⟩:=g2.get j y e
   have hy:=hp y (List.mem_of_getElem? e)
   refine⟨u,hu,?_⟩
   rcases hy with hy|⟨es,rfl⟩
   ·rw[M6z hy hr];exact T0z (.inl hy)
   ·
    have hsz:z.size=ps.length:=by have:=congrArg List.length hz;simpa using this
    have hjl:=(List.getElem?_eq_some_iff.1 e).1
    have hlt:i*ps.length+j<n*ps.length:=by
     have:(i+1)*ps.length≤n*ps.length:=Nat.mul_le_mul_right _ hin
     rw[Nat.add_mul]at this;omega
    have hmod:(i*ps.length+j) % z.size=j:=by
     rw[hsz,Nat.add_comm,Nat.add_mul_mod_self_right,Nat.mod_eq_of_lt hjl]
    have hzj:z[j]? =some (PV.s es []).val:=by
     have h2:z.toList[j]? =some (PV.s es []).val:=by rw[hz,List.getElem?_map,e];rfl
     simpa using h2
    have hjz:=(Array.getElem?_eq_some_iff.1 hzj).1
    have:(BSz z (n*ps.length))[0+i*ps.length+j]? =some (PV.s es []).val:=by
     simp only[BSz,Array.getElem?_map,Nat.zero_add]
     rw[Array.getElem?_range,if_pos hlt]
     simp only[Option.map_some,hmod]
     rw[getElem!_pos z j hjz]
     rw[←(Array.getElem?_eq_some_iff.1 hzj).2]
    rw[this]at hu
    injection hu with hu;subst hu
    exact .o0 _ none es
theorem Viz {P:Program} {T:Tys} (hT:TOk P T) (mo:Bool) {X:Ctx} (hi:Inv X) {d:Nat} (hf:Free X d 0) {t e:TypeId} {es bs:Nat} {z:List PV} {n:Int} (h1:T.sl t=some e) (h2:T.sz e=some es) (h3:T.byt e=some bs) (h4:T.zr e=some z)
  (hn0:0≤n) (hn1:n≤LIM) (hn2:n*bs≤LIM) (hz:z.length=es):
  ∃v X',(Instr.makeSlice t (.int .i64 n) (.int .i64 n)).run P X.w= .ok v X'.w∧PureRes X X' d v (.c .one [.ow false es (List.replicate n.toNat (zoIf mo z))]):=by
 have hu:=hT.sl t e h1
 obtain⟨i,hi1,hi2⟩:=hT.sz e es h2
 obtain⟨i',hi1',hi3⟩:=hT.byt e bs h3
 rw[hi1]at hi1';injection hi1' with hi1';subst hi1'
 obtain⟨v0,hr,hc,hp⟩:=Exz (w:=X.w) hT h4
 have hwrap:IntKind.i64.wrap n=n:=IntWalk.i64_in n (by unfold LIM at hn1;omega)
 have hbig:¬((n<0||decide ((bs:Int)*n>2^48))||decide (n<0)||decide (n>n))=true:=by
  unfold LIM at hn2
  rw[Int.mul_comm]at hn2
  simp
  omega
 have hlen:(List.replicate n.toNat (zoIf mo z)).length=n.toNat:=by simp
 have hcells:(Array.range (n.toNat*es)).map ((if n.toNat*es=0 then(#[]:Array Value)else v0.cells)[· % (if n.toNat*es=0 then(#[]:Array Value)else v0.cells).size]!)=BSz v0.cells (n.toNat*es):=Gkz id
 have hpush:Pushes X.w (X.w.alloc (.cells (BSz v0.cells (n.toNat*es)) e)) (.cells (BSz v0.cells (n.toNat*es)) e (0,0)):=⟨rfl,rfl,rfl,rfl⟩
 refine⟨.slice (some ⟨X.w.heap.size,0,none⟩) (List.replicate n.toNat (zoIf mo z)).length n.toNat,X.made (X.w.alloc (.cells (BSz v0.cells (n.toNat*es)) e)) (d,1,[],0,(List.replicate n.toNat (zoIf mo z)).length),?_,?_⟩
 ·unfold Instr.makeSlice
  simp only[Sem.run_bind,A9z hu,Result.andThen_ok,asInt,asIntOf,Sem.run_pure,LLz hi1,hi3,hwrap]
  rw[if_neg hbig]
  simp only[Sem.run_bind,run_askRoom,Result.andThen_ok,Dqz hi1,hi2]
  by_cases h0:n.toNat*es=0
  ·simp only[if_pos h0]at hcells
   rw[if_pos h0]
   simp only[Sem.run_bind,Sem.run_pure,Result.andThen_ok,hcells,newRow,run_newObj,hlen]
   rfl
  ·simp only[if_neg h0]at hcells
   rw[if_neg h0]
   simp only[Sem.run_bind,Sem.run_pure,Result.andThen_ok,hr,hcells,newRow,run_newObj,hlen]
   rfl
 ·refine IPz (f:=false) (es:=es) (cap:=n.toNat) (rows:=List.replicate n.toNat (zoIf mo z)) hi hf hpush (Kmz _) (by rw[hlen];exact Nat.le_refl _) (by rw[Ebz];exact Nat.le_refl _) fun X' _ _=> ?_
  rw[←hz]
  exact HFz mo hc hp n.toNat
theorem L3z {h:Array Obj} {V V':Nat→Prop} {own:Nat→Option Own} {s p:Nat} {q:Path} {c c':Array Value} {es base:Nat} {rows:List (List PV)} {i:Nat} {ps:List PV} (hr:ORows h V own s p q 0 c base es rows) (hV:∀b,V b→V' b) (hi:i<rows.length) (hl:ps.length=es)
  (h1:∀(j:Nat) (x:PV),ps[j]? =some x→∃v,c'[base+i*es+j]? =some v∧ORd h V' own s p (q++[(i,j)]) v x) (h2:∀k,(k<base+i*es∨base+i*es+es≤k)→c'[k]? =c[k]?):ORows h V' own s p q 0 c' base es (rows.set i ps):=by
 refine ORows.mk fun k row hk=> ?_
 by_cases hki:k=i
 ·subst hki
  rw[List.getElem?_set_self hi]at hk
  injection hk with hk;subst hk
  exact⟨hl,ORow.mk fun j x hj=>by simpa using h1 j x hj⟩
 ·rw[List.getElem?_set_ne (Ne.symm hki)]at hk
  obtain⟨g1,g2⟩:=hr.get k row hk
  refine⟨g1,ORow.mk fun j x hj=> ?_⟩
  obtain⟨v,hv,hrd⟩:=g2.get j x hj
  refine⟨v,?_,hrd.mono (fun b hb=>⟨hV b hb,rfl⟩) fun b q base tip ho=>⟨ho,rfl⟩⟩
  rw[←hv]
  have hjl:=(List.getElem?_eq_some_iff.1 hj).1
  rw[g1]at hjl
  refine h2 _ ?_
  rcases Nat.lt_or_gt_of_ne hki with h|h
  ·left
   have:(k+1)*es≤i*es:=Nat.mul_le_mul_right _ h
   rw[Nat.add_mul]at this;omega
  ·right
   have:(i+1)*es≤k*es:=Nat.mul_le_mul_right _ h
   rw[Nat.add_mul]at this;omega
theorem R5z {X:Ctx} {σ:St} {v:Value} {c:CV} {f:Bool} {p:PV} (hv:∀k j,CVRel X k j v c) (he:nest c []=some (σ,f,p)):σ=[]∧Rd X.w.heap (X.V f) v p:=by
 unfold nest at he
 split at he
 ·rename_i f0 p0
  injection he with he;injection he with e1 he;injection he with e2 e3;subst e1;subst e2;subst e3
  refine⟨rfl,?_⟩
  have:=hv 0 0
  cases this with
  |sh _ _ _ hv=>
   cases hs:p0.scalar with
   |true=>exact hv.scalar hs
   |false=>simpa[hs]using hv
 ·rename_i f0 es
  injection he with he;injection he with e1 he;injection he with e2 e3;subst e1;subst e2;subst e3
  obtain⟨_,a,rfl⟩:=Dvz fun k=>hv k 0
  exact⟨rfl,.s0 a 0 es⟩
 ·simp[ABz,CV.isOw]at he
 ·simp at he
theorem Qcz {X:Ctx} {σ:St} {tg:Tgt} {v:Value} {c:CV} {m:CV→CV} {f:Bool} {p:PV} (hv:∀k j,CVRel X k j v c) (he:Cmz tg c []=some (σ,m,f,p)):σ=[]∧m=id∧∀s o q,R.ORd X.w.heap (X.V f) (fun _=>none) s o q v p:=by
 unfold Cmz at he
 split at he
 ·rename_i f0 p0
  injection he with he;injection he with e1 he;injection he with e0 he;injection he with e2 e3;subst e1;subst e0;subst e2;subst e3
  refine⟨rfl,rfl,fun s o q=> .rd _ _ _ ?_⟩
  have:=hv 0 0
  cases this with
  |sh _ _ _ hv=>exact(by
   cases hs:p0.scalar with
   |true=>exact hv.scalar hs
   |false=>simpa[hs]using hv)
 ·rename_i f0 es
  injection he with he;injection he with e1 he;injection he with e0 he;injection he with e2 e3;subst e1;subst e0;subst e2;subst e3
  obtain⟨_,a,rfl⟩:=Dvz fun k=>hv k 0
  exact⟨rfl,rfl,fun s o q=> .o0 _ a es⟩
 ·simp[ABz,CV.isOw]at he
 ·simp at he
def FLs (X:Ctx) (f:Bool) (vals:List Value) (ps:List PV):Prop:=
 vals.length=ps.length∧∀(n:Nat) (v:Value) (p:PV),vals[n]? =some v→ps[n]? =some p→∀s o q,R.ORd X.w.heap (X.V f) (fun _=>none) s o q v p
theorem FLs.cons {X:Ctx} {f1 f2:Bool} {v:Value} {p:PV} {vals:List Value} {ps:List PV} (h:∀s o q,R.ORd X.w.heap (X.V f1) (fun _=>none) s o q v p) (t:FLs X f2 vals ps):FLs X (f1||f2) (v::vals) (p::ps):=
 ⟨by simp[t.1],fun n v' p' h1 h2 s o q=>by
  cases n with
  |zero=>simp at h1 h2;subst h1;subst h2;exact(h s o q).mono (fun b hb=>⟨V_or f2 hb,rfl⟩) fun b q base tip ho=>⟨ho,rfl⟩
  |succ n=>exact(t.2 n v' p' (by simpa using h1) (by simpa using h2) s o q).mono (fun b hb=>⟨Etz f1 hb,rfl⟩) fun b q base tip ho=>⟨ho,rfl⟩⟩
theorem F6z {X:Ctx}:∀{l:List CV} {vals:List Value} {σ:St} {f:Bool} {ps:List PV} {tg:Option Tgt} {m:CV→CV},(∀c,m c=c)→VCells X vals l→Aiz tg m l []=some (σ,f,ps)→σ=[]∧FLs X f vals ps
 |[],vals,σ,f,ps,tg,m,hm,hv,he=>by
  simp only[Aiz]at he
  injection he with he;injection he with e1 he;injection he with e2 e3;subst e1;subst e2;subst e3
  cases hv
  exact⟨rfl,rfl,fun n v p h=>by simp at h⟩
 |c::l,vals,σ,f,ps,none,m,hm,hv,he=>by
  cases hv with
  |cons v _ vals _ hc ht=>
  simp only[Aiz,hm]at he
  obtain⟨⟨σ1,f1,p1⟩,e1,he⟩:=AAz he
  obtain⟨rfl,r1⟩:=R5z hc e1
  cases e2:Aiz none m l []with
  |none=>simp[e2]at he
  |some q=>
   obtain⟨σ2,f2,ps2⟩:=q
   simp[e2]at he
   obtain⟨rfl,rfl,rfl⟩:=he
   obtain⟨rfl,r2⟩:=F6z hm ht e2
   exact⟨rfl,.cons (fun s o q=> .rd _ _ _ r1) r2⟩
 |c::l,vals,σ,f,ps,some tg,m,hm,hv,he=>by
  cases hv with
  |cons v _ vals _ hc ht=>
  simp only[Aiz,hm]at he
  obtain⟨⟨σ1,m1,f1,p1⟩,e1,he⟩:=AAz he
  obtain⟨rfl,rfl,r1⟩:=Qcz hc e1
  cases e2:Aiz (some tg.next) (fun x=>id x) l []with
  |none=>
   have:(fun x=>id (m x))=(fun x:CV=>id x):=by funext x;rw[hm x]
   simp only[this,e2]at he
   simp at he
  |some q=>
   obtain⟨σ2,f2,ps2⟩:=q
   have:(fun x=>id (m x))=(fun x:CV=>id x):=by funext x;rw[hm x]
   simp only[this,e2,Option.map_some]at he
   simp only[Option.some.injEq,Prod.mk.injEq]at he
   obtain⟨rfl,rfl,rfl⟩:=he
   obtain⟨rfl,r2⟩:=F6z (fun c=>rfl) ht e2
   exact⟨rfl,.cons r1 r2⟩
theorem RdL.get {X:Ctx} {f:Bool}:∀{vs:List Value} {ps:List PV},RdL X f vs ps→∀(j:Nat) (p:PV),ps[j]? =some p→∃v,vs[j]? =some v∧Rd X.w.heap (X.V f) v p
 |_,_,.nil,j,p,h=>by simp at h
 |_,_,.cons v q vs ps h t,0,p,e=>by simp at e;subst e;exact⟨v,rfl,h⟩
 |_,_,.cons v q vs ps h t,j+1,p,e=>by
  obtain⟨u,h1,h2⟩:=RdL.get t j p (by simpa using e)
  exact⟨u,by simpa using h1,h2⟩
theorem Gaz {h:Array Obj} {V V':Nat→Prop} {own:Nat→Option Own} {s p:Nat} {es i:Nat} {z:Array Value} {v:Value} {ps:List PV} {rows:List (List PV)} (hV:∀b,V b→V' b) (hr:ORows h V own s p [] 0 z 0 es rows) (hz:z.size=rows.length*es) (hi:i<rows.length) (hl:ps.length=es)
  (hlen:v.cells.toList.length=ps.length) (hp:∀n u x,v.cells.toList[n]? =some u→ps[n]? =some x→ORd h V' own s p ([]++[(i,n)]) u x):ORows h V' own s p [] 0 (v.cells.zipIdx.foldl (fun(a:Array Value) (p:Value×Nat)=>a.setIfInBounds (i*es+p.2) p.1) z) 0 es (rows.set i ps)∧
   (v.cells.zipIdx.foldl (fun(a:Array Value) (p:Value×Nat)=>a.setIfInBounds (i*es+p.2) p.1) z).size=z.size∧v.cells.size=es∧i*es+v.cells.size≤z.size:=by
 have hsz:v.cells.size=es:=by simpa[hl]using hlen
 have hfit:i*es+v.cells.size≤z.size:=by
  rw[hsz,hz]
  have:(i+1)*es≤rows.length*es:=Nat.mul_le_mul_right _ hi
  rw[Nat.add_mul]at this;omega
 have hfold:=Nhz v.cells (i*es) z hfit
 revert hfold
 generalize v.cells.zipIdx.foldl (fun(a:Array Value) (p:Value×Nat)=>a.setIfInBounds (i*es+p.2) p.1) z=y
 intro hfold
 have hget:∀k:Nat,y[k]? =(z.toList.take (i*es)++v.cells.toList++z.toList.drop (i*es+v.cells.size))[k]? :=fun k=>by
  rw[←hfold];simp
 refine⟨?_,?_,hsz,hfit⟩
 ·refine L3z hr hV hi hl (fun j x hj=> ?_) fun k hk=> ?_
  ·have hjl:=(List.getElem?_eq_some_iff.1 hj).1
   have h1:v.cells.toList[j]? =some (v.cells.toList[j]'(by omega)):=List.getElem?_eq_getElem _
   refine⟨_,?_,hp j _ x h1 hj⟩
   rw[Nat.zero_add,hget,List.append_assoc,List.getElem?_append_right (by simp;omega)]
   have:i*es+j - (z.toList.take (i*es)).length=j:=by simp;omega
   rw[this,List.getElem?_append_left (by have:=(List.getElem?_eq_some_iff.1 h1).1;exact this)]
   exact h1
  ·rw[hget]
   simp only[Nat.zero_add]at hk
   rcases hk with hk|hk
   ·rw[List.append_assoc,List.getElem?_append_left (by simp;omega),List.getElem?_take,if_pos hk]
    simp
   ·rw[List.getElem?_append_right (by simp;omega)]
    have:k - (z.toList.take (i*es)++v.cells.toList).length=k - (i*es+es):=by simp;omega
    rw[this,List.getElem?_drop,hsz,show i*es+es+(k - (i*es+es))=k from by omega]
    simp
 ·have:=congrArg List.length hfold
  simp at this
  omega
theorem MPz {X:Ctx} {es:Nat} {tg:Option Nat}:∀{ps:List (Nat×SV)} {vs:List (Nat×Value)} {g f':Bool} {rows rows':List (List PV)} {σ:St} {z:Array Value},ps.map (·.1)=vs.map (·.1)→OSVs X (vs.map (·.2)) (ps.map (·.2))→
  R.ORows X.w.heap (X.V g) (fun _=>none) 0 0 [] 0 z 0 es rows→z.size=rows.length*es→Aqz tg es ps g rows []=some (σ,f',rows')→
   ∃z',Instr.fill (fun i=>some (i*es,es)) z vs=some z'∧R.ORows X.w.heap (X.V f') (fun _=>none) 0 0 [] 0 z' 0 es rows'∧z'.size=rows'.length*es∧rows'.length=rows.length
 |[],vs,g,f',rows,rows',σ,z,h1,h2,hr,hz,h=>by
  have:vs=[]:=by cases vs with|nil=>rfl|cons _ _=>simp at h1
  subst this
  simp only[Aqz]at h;injection h with h;injection h with _ h;injection h with h3 h4;subst h3;subst h4
  exact⟨z,rfl,hr,hz,rfl⟩
 |(i,x)::ps,vs,g,f',rows,rows',σ,z,h1,h2,hr,hz,h=>by
  cases vs with
  |nil=>simp at h1
  |cons p vs=>
   obtain⟨i',v⟩:=p
   simp at h1
   obtain⟨rfl,h1⟩:=h1
   simp only[List.map_cons]at h2
   cases h2 with
   |cons _ _ _ _ hv ht=>
    simp only[Aqz]at h
    obtain⟨cs,e2,h⟩:=AAz h
    obtain⟨⟨σ1,f1,p1⟩,e3,h⟩:=AAz h
    obtain⟨hc1,_⟩:=D4z hv e2
    obtain⟨rfl,hp⟩:=F6z (fun c=>rfl) hc1 e3
    simp only at h
    split at h
    ·rename_i hle
     obtain⟨l1,l2,l3,l4⟩:=Gaz (V':=X.V (g||f1)) (fun b hb=>V_or f1 hb) hr hz hle.1 hle.2.1 hp.1 (fun n u x h1 h2=>(hp.2 n u x h1 h2 0 0 _).mono (fun b hb=>⟨Etz g hb,rfl⟩) fun b q base tip ho=>by simp at ho)
     obtain⟨z',r,q1,q2,q3⟩:=MPz (ps:=ps) (vs:=vs) h1 ht l1 (by rw[l2,hz];simp) h
     refine⟨z',?_,q1,q2,by simpa using q3⟩
     simp only[Instr.fill]
     have l5:¬(v.cells.size≠es∨i*es+v.cells.size>z.size):=fun hh=>hh.elim (fun h=>h l3) fun h=>by omega
     rw[if_neg (by simpa using l5)]
     exact r
    ·simp at h
theorem Ruz {P:Program} {T:Tys} (hT:TOk P T) (mo:Bool) {tg:Option Nat} {X:Ctx} (hi:Inv X) {d:Nat} (hf:Free X d 0) {t e:TypeId} {es n:Nat} {z:List PV} {parts:List (Nat×Value)} {ps:List (Nat×SV)} {σ:St} {f:Bool} {rows:List (List PV)}
  (h1:T.sl t=some e) (h2:T.sz e=some es) (h4:T.zr e=some z) (hn:n*es≤16777216) (hz:z.length=es) (hp1:ps.map (·.1)=parts.map (·.1)) (hp2:OSVs X (parts.map (·.2)) (ps.map (·.2)))
  (h:Aqz tg es ps false (List.replicate n (zoIf mo z)) []=some (σ,f,rows)):
  ∃v X',(Instr.buildSlice t n parts.toArray).run P X.w= .ok v X'.w∧PureRes X X' d v (.c .one [.ow f es rows]):=by
 have hu:=hT.sl t e h1
 obtain⟨i,hi1,hi2⟩:=hT.sz e es h2
 obtain⟨v0,hr,hc,hp⟩:=Exz (w:=X.w) hT h4
 have h0:R.ORows X.w.heap (X.V false) (fun _=>none) 0 0 [] 0 (BSz v0.cells (n*es)) 0 es (List.replicate n (zoIf mo z)):=by rw[←hz];exact HFz mo hc hp n
 obtain⟨z',hfill,q1,q2,q3⟩:=MPz hp1 hp2 h0 (by rw[Ebz];simp) h
 have hlen:rows.length=n:=by rw[q3];simp
 have hpush:Pushes X.w (X.w.alloc (.cells z' e)) (.cells z' e (0,0)):=⟨rfl,rfl,rfl,rfl⟩
 have hcells:(Array.range (n*es)).map ((if n*es=0 then(#[]:Array Value)else v0.cells)[· % (if n*es=0 then(#[]:Array Value)else v0.cells).size]!)=BSz v0.cells (n*es):=Gkz id
 refine⟨.slice (some ⟨X.w.heap.size,0,none⟩) rows.length rows.length,X.made (X.w.alloc (.cells z' e)) (d,1,[],0,rows.length),?_,IPz hi hf hpush (Kmz _) (Nat.le_refl _) (by rw[q2];exact Nat.le_refl _) fun X' hm hw=> ?_⟩
 ·unfold Instr.buildSlice
  simp only[Sem.run_bind,A9z hu,Result.andThen_ok,Dqz hi1,hi2]
  rw[if_neg (by omega)]
  by_cases h0:n*es=0
  ·simp only[if_pos h0]at hcells
   rw[if_pos h0]
   simp only[Sem.run_bind,Sem.run_pure,Result.andThen_ok,hcells,hfill,newRow,run_newObj,hlen]
   rfl
  ·simp only[if_neg h0]at hcells
   rw[if_neg h0]
   simp only[Sem.run_bind,Sem.run_pure,Result.andThen_ok,hr,hcells,hfill,newRow,run_newObj,hlen]
   rfl
 ·have:=q1.mono (V':=X'.V f) (h':=X'.w.heap) (own':=X'.own) (s':=d) (p':=1) (fun b hb=>hm.V f b hb) fun b q base tip ho=>by simp at ho
  rw[hw]at this
  exact this
end Go.Proofs.YtblelojdboefjaaGreatDoor.R
namespace Go.Proofs.YtblelojdboefjaaGreatDoor.R
open Go
theorem Bhz {P:Program} {w w':World} {s:Sem Value} {v:Value} (h:s.run P w= .ok v w'):(do pure (Next.value (←s)):Sem Next).run P w= .ok (.value v) w':=by
 simp[h]
theorem AHz {α β:Type} {o:Option α} {f:α→β} {y:β} (h:o.map f=some y):∃x,o=some x∧f x=y:=by
 cases o with
 |none=>simp at h
 |some x=>exact⟨x,rfl,by simpa using h⟩
theorem EMz {X:Ctx} {α:Type} {f:α→Value} {g:α→SV}:∀{l:List α},(∀x∈l,OSV X (f x) (g x))→OSVs X (l.map f) (l.map g)
 |[],_=> .nil
 |x::l,h=> .cons _ _ _ _ (h x (by simp)) (EMz fun y hy=>h y (by simp[hy]))
def G7z (o:Oper):Bool:=
 match o.op with
 | .call c=>match c.callee with
  | .value _=>true
  |_=>false
 |_=>false
theorem P3z {X:Ctx} {ev:Operand→SV} {rho:Operand→Value} (hev:∀x,OSV X (rho x) (ev x)):∀{l:List Operand} {r:List Nat},(l.mapM fun x=>FGz (ev x))=some r→
  r.length=l.length∧∀(i:Nat) (v:Value) (s:Nat),(l.map rho)[i]? =some v→r[i]? =some s→∃(blk base tip:Nat),v=Value.pointer (some ⟨blk,0,none⟩)∧X.own blk=some (s,0,[],base,tip)
 |[],r,h=>by
  simp at h;subst h
  exact⟨rfl,fun i v s h1 h2=>by simp at h1⟩
 |x::l,r,h=>by
  simp only[List.mapM_cons,Option.bind_eq_bind]at h
  obtain⟨s,e1,h⟩:=AAz h
  obtain⟨r',e2,h⟩:=AAz h
  injection h with h;subst h
  obtain⟨h1,h2⟩:=P3z hev e2
  refine⟨by simp[h1],fun i v s' hv hs=> ?_⟩
  cases i with
  |zero=>
   simp at hv hs;subst hv;subst hs
   unfold FGz at e1
   split at e1
   ·rename_i s1 e3
    injection e1 with e1;subst e1
    have:=hev x 0
    rw[e3]at this
    generalize rho x=u at this ⊢
    cases this with
    |bp _ _ blk base tip ho=>exact⟨blk,base,tip,rfl,ho⟩
   ·simp at e1
  |succ i=>exact h2 i v s' (by simpa using hv) (by simpa using hs)
theorem NBz {P:Program} {E:Env} (hT:TOk P E.T) {call:CallF} {X:Ctx} {a:Act} {gv:List Value} {σ:St} {E0:Nat→Nat→Prop} (hg:Good X (All a gv) σ E0) {N:Nat} (hN:N=a.tmps.size) {d:Nat} (hf:Free X d 0)
  {o:Oper} {sv:SV} (h:ALz E call N o σ=some sv) (hc:G7z o=false):
  ∃v X',(execOp a.eval o).run P X.w= .ok (.value v) X'.w∧PureRes X X' d v sv:=by
 have hev:∀x,OSV X (a.eval x) (opd E.T N o.type σ x):=fun x=>Bcz hg hN x
 have hi:=hg.inv
 unfold ALz at h
 unfold execOp
 unfold G7z at hc
 generalize hop:o.op=op at h hc ⊢
 cases op with
 |move x=>
  simp only at h ⊢
  injection h with h;subst h
  exact⟨a.eval x,X,rfl,.same hi (hev x)⟩
 |assign x=>
  simp only at h ⊢
  have hx:=hev x
  refine⟨a.eval x,X,rfl,.same hi ?_⟩
  split at h
  ·rename_i l e;split at h
   ·injection h with h;subst h;rw[e]at hx;exact hx
   ·simp at h
  ·rename_i l e;split at h
   ·injection h with h;subst h;rw[e]at hx;exact hx
   ·simp at h
  ·rename_i s b e;injection h with h;subst h;rw[e]at hx;exact hx
  ·rename_i g caps e;injection h with h;subst h;rw[e]at hx;exact hx
  ·simp at h
 |pick c x y=>
  simp only at h ⊢
  cases e:(opd E.T N o.type σ c).bool? with
  |none=>simp[e]at h
  |some b=>
   simp[e]at h;subst h
   have hb:=Liz (hev c) e
   refine⟨if b then a.eval x else a.eval y,X,by simp[hb,asBool],.same hi ?_⟩
   cases b
   ·simpa using hev y
   ·simpa using hev x
 |binOp op t x y ty=>
  simp only at h ⊢
  cases e:A7z E.T op t (opd E.T N o.type σ x) (opd E.T N o.type σ y)with
  |none=>simp[e]at h
  |some p=>
   simp[e]at h;subst h
   obtain⟨r,hp,hg⟩:=Xjz hT (hev x) (hev y) e
   refine⟨p.val,X,?_,.same hi (CQz hp)⟩
   have hgd:=hg x y
   simp only[Sem.run_bind,hgd,Result.andThen_ok,r,Sem.run_pure]
 |unOp op t x=>
  simp only at h ⊢
  cases e:unSV op (opd E.T N o.type σ x)with
  |none=>simp[e]at h
  |some p=>
   simp[e]at h;subst h
   obtain⟨r,hp⟩:=Ydz (P:=P) (hev x) e
   exact⟨p.val,X,Bhz r,.same hi (CQz hp)⟩
 |convert s t x=>
  simp only at h ⊢
  obtain⟨v,X',r,q⟩:=V8z hT hi hf (hev x) h
  exact⟨v,X',Bhz r,q⟩
 |fieldAddr t x f=>
  simp only at h ⊢
  obtain⟨v,r,q⟩:=UQz hT (hev x) h
  exact⟨v,X,Bhz r,.same hi q⟩
 |indexAddr t x i=>
  simp only at h ⊢
  obtain⟨v,r,q⟩:=UMz hT (hev x) (hev i) h
  exact⟨v,X,Bhz r,.same hi q⟩
 |index t x i=>
  simp only at h ⊢
  obtain⟨v,r,q⟩:=V9z hT (hev x) (hev i) h
  exact⟨v,X,Bhz r,.same hi q⟩
 |load t x=>
  simp only at h ⊢
  obtain⟨v,r,q⟩:=Pkz hT hg (hev x) h
  exact⟨v,X,Bhz r,.same hi q⟩
 |extract x i=>
  simp only at h ⊢
  split at h
  ·rename_i s l e
   have hx:=hev x
   rw[e]at hx
   obtain⟨v,r,q⟩:=Krz (P:=P) hx h
   exact⟨v,X,Bhz (r _),.same hi q⟩
  ·simp at h
 |slice t x lo hi' mx=>
  cases mx with
  |some m=>simp at h
  |none=>
   simp only at h ⊢
   have hm:∀y:Option Operand,HEz X (y.map a.eval) (y.map (opd E.T N o.type σ)):=fun y=>by
    cases y with
    |none=>exact⟨fun v hv=>by simp at hv,fun _=>rfl⟩
    |some y=>exact⟨fun v hv=>by simp at hv;subst hv;exact⟨_,rfl,hev y⟩,fun hv=>by simp at hv⟩
   obtain⟨v,r,q⟩:=Tfz hT (hev x) (hm lo) (hm hi') h
   exact⟨v,X,Bhz r,.same hi q⟩
 |nilCheck x=>
  simp only at h ⊢
  split at h
  ·rename_i hgd
   injection h with h;subst h
   refine⟨a.eval x,X,?_,.same hi (hev x)⟩
   have hx:=hev x 0
   generalize opd E.T N o.type σ x=y at hx hgd
   generalize a.eval x=v at hx ⊢
   cases hx with
   |undef=>simp[EVz]at hgd
   |c=>simp[EVz]at hgd
   |box=>simp[EVz]at hgd
   |bp=>rfl
   |ep=>rfl
   |epv=>rfl
   |sp=>rfl
   |fn=>rfl
  ·simp at h
 |build t ps=>
  simp only at h ⊢
  obtain⟨z,e1,h⟩:=AAz h
  obtain⟨ag,e2,h⟩:=AAz h
  cases ag with
  |false=>simp at h
  |true=>
   simp only[if_true]at h
   cases e3:Dkz E.T t (ps.toList.map fun p=>(p.1,opd E.T N o.type σ p.2)) (z.map (PV.cv false))with
   |none=>simp[e3]at h
   |some l=>
    simp[e3]at h;subst h
    obtain⟨v,r,q⟩:=Ukz (P:=P) hT (X:=X) (parts:=ps.toList.map fun p=>(p.1,a.eval p.2)) e1 e2 (by simp[List.map_map,Function.comp_def]) (by
     rw[List.map_map,List.map_map]
     exact EMz fun p _=>hev p.2) e3
    refine⟨v,X,?_,.same hi q⟩
    have:(ps.map fun(i,x)=>(i,a.eval x))=(ps.toList.map fun p=>(p.1,a.eval p.2)).toArray:=by
     apply Array.ext';simp
    rw[this]
    exact Bhz r
 |makeFunc fn first caps=>
  cases fn with
  |func g=>
   simp only at h ⊢
   split at h
   ·rename_i hfs
    ·obtain⟨l,e,h⟩:=AHz h
     subst h
     obtain⟨h1,h2⟩:=P3z hev e
     refine⟨.func (.func g) (first.map a.eval) (caps.map a.eval),X,rfl,.same hi fun k=> ?_⟩
     have:first.map a.eval= #[]:=by
      have h0:first= #[]:=Array.eq_empty_of_size_eq_zero hfs
      rw[h0];simp
     rw[this]
     exact .fn g l _ (by simp[h1]) fun i v s hv hs=>h2 i v s (by simpa using hv) hs
   ·simp at h
  |_=>simp at h
 |makeSlice t n m=>
  simp only at h ⊢
  obtain⟨e,e1,h⟩:=AAz h
  obtain⟨es,e2,h⟩:=AAz h
  obtain⟨bs,e3,h⟩:=AAz h
  obtain⟨z,e4,h⟩:=AAz h
  split at h
  ·rename_i n' m' hn hm
   have hvn:=EBz (hev n) hn
   have hvm:=EBz (hev m) hm
   split at h
   ·rename_i hcond
    obtain⟨rfl,c1,c2,c3,c4⟩:=hcond
    injection h with h;subst h
    obtain⟨v,X',r,q⟩:=Viz (P:=P) hT E.T.mo hi hf e1 e2 e3 e4 c1 c2 c3 c4
    rw[hvn,hvm]
    exact⟨v,X',Bhz r,q⟩
   ·simp at h
  ·simp at h
 |buildSlice t n ps=>
  simp only at h ⊢
  obtain⟨e,e1,h⟩:=AAz h
  obtain⟨es,e2,h⟩:=AAz h
  obtain⟨z,e4,h⟩:=AAz h
  split at h
  ·rename_i hcond
   cases e5:Aqz (if E.T.mo then some 0 else none) es (ps.toList.map fun p=>(p.1,opd E.T N o.type σ p.2)) false (List.replicate n (if E.T.mo then z.map PV.zo else z)) []with
   |none=>simp[e5]at h
   |some r=>
    obtain⟨σ',f,rows⟩:=r
    simp[e5]at h;subst h
    obtain⟨v,X',r,q⟩:=Ruz (P:=P) hT E.T.mo hi hf (parts:=ps.toList.map fun p=>(p.1,a.eval p.2)) e1 e2 e4 hcond.1 hcond.2 (by simp[List.map_map,Function.comp_def]) (by
     rw[List.map_map,List.map_map]
     exact EMz fun p _=>hev p.2) e5
    have:(ps.map fun(i,x)=>(i,a.eval x))=(ps.toList.map fun p=>(p.1,a.eval p.2)).toArray:=by
     apply Array.ext';simp
    rw[this]
    exact⟨v,X',Bhz r,q⟩
  ·simp at h
 |call c=>
  simp only at h hc ⊢
  have hargs:OSVs X (c.args.toList.map a.eval) (c.args.toList.map (opd E.T N o.type σ)):=EMz fun x _=>hev x
  have hca:c.args.map a.eval=(c.args.toList.map a.eval).toArray:=by apply Array.ext';simp
  generalize c.args.toList.map (opd E.T N o.type σ)=xs at h hargs
  generalize hxv:c.args.toList.map a.eval=xv at hargs hca
  split at h
  ·rename_i hcal
   split at h
   ·rename_i x t hat
    cases hargs with
    |cons v _ vs _ hv ht=>
     cases ht
     have hat':c.argTypes= #[t]:=by apply Array.ext';exact hat
     obtain⟨v',r,q⟩:=XFz (P:=P) (ty:=o.type) hT hv h
     refine⟨v',X,?_,.same hi q⟩
     simp only[resolve,hcal,hca,hat',Sem.run_bind,Sem.run_pure,Result.andThen_ok,invoke,builtin]
     rw[r]
     rfl
   ·simp at h
  ·rename_i hcal
   split at h
   ·rename_i x l
    cases hargs with
    |cons v _ vs _ hv ht=>
     obtain⟨v',r,q⟩:=LXz (P:=P) (g:=min2) (m:=Builtin.min2) (fun v u x y z h1 h2 h3=>Vez h1 h2 h3) ht hv h
     refine⟨v',X,?_,.same hi q⟩
     simp only[resolve,hcal,hca,Sem.run_bind,Sem.run_pure,Result.andThen_ok,invoke,builtin,Builtin.min_]
     rw[r]
     rfl
   ·simp at h
  ·rename_i hcal
   split at h
   ·rename_i x l
    cases hargs with
    |cons v _ vs _ hv ht=>
     obtain⟨v',r,q⟩:=LXz (P:=P) (g:=max2) (m:=Builtin.max2) (fun v u x y z h1 h2 h3=>Vgz h1 h2 h3) ht hv h
     refine⟨v',X,?_,.same hi q⟩
     simp only[resolve,hcal,hca,Sem.run_bind,Sem.run_pure,Result.andThen_ok,invoke,builtin,Builtin.max_]
     rw[r]
     rfl
   ·simp at h
  ·rename_i f hcal
   simp[hcal]at hc
  ·simp at h
 |_=>simp at h
end Go.Proofs.YtblelojdboefjaaGreatDoor.R
namespace Go.Proofs.YtblelojdboefjaaGreatDoor.R
open Go
def Duz:List Nat→Nat→Option Nat
 |[],_=>none
 |x::l,s=>if x=s then some 0 else(Duz l s).map (· +1)
theorem CVz:∀{gs:List Nat} {s g:Nat},Duz gs s=some g→gs[g]? =some s
 |[],s,g,h=>by simp[Duz]at h
 |x::l,s,g,h=>by
  simp only[Duz]at h
  split at h
  ·rename_i e;injection h with h;subst h;subst e;rfl
  ·obtain⟨g',h1,rfl⟩:=AHz h
   simpa using CVz h1
theorem Fgz:∀{gs:List Nat} {s:Nat},gs.contains s=true→∃g,Duz gs s=some g
 |[],s,h=>by simp at h
 |x::l,s,h=>by
  simp only[Duz]
  by_cases e:x=s
  ·rw[if_pos e];exact⟨0,rfl⟩
  ·rw[if_neg e]
   have:l.contains s=true:=by
    simp only[List.contains_cons,Bool.or_eq_true]at h
    rcases h with h|h
    ·simp at h;exact absurd h.symm e
    ·exact h
   obtain⟨g,hg⟩:=Fgz this
   exact⟨g+1,by simp[hg]⟩
theorem ELz:∀{gs:List Nat} {s g:Nat},Ckz gs=true→gs[g]? =some s→Duz gs s=some g
 |[],s,g,hn,h=>by simp at h
 |x::l,s,g,hn,h=>by
  simp only[Ckz,Bool.and_eq_true,Bool.not_eq_true']at hn
  simp only[Duz]
  cases g with
  |zero=>simp at h;subst h;simp
  |succ g=>
   simp at h
   have hm:l.contains s=true:=by simpa using List.mem_of_getElem? h
   rw[if_neg (by intro e;subst e;rw[hm]at hn;simp at hn),ELz hn.2 h]
   rfl
theorem Dhz {gs:List Nat} {s g:Nat} (h:gs[g]? =some s):gs.contains s=true:=by simpa using List.mem_of_getElem? h
theorem REz {σ:St} {s:Nat} {l:List CV} (h:K7z σ s=some l):σ[s]? =some (.c .box l):=by
 unfold K7z at h
 rw[List.getD_eq_getElem?_getD]at h
 split at h
 ·rename_i l' e
  injection h with h;subst h
  cases e1:σ[s]? with
  |none=>rw[e1]at e;simp at e
  |some x=>rw[e1]at e;simpa using e
 ·simp at h
theorem DVz {σ:St}:∀{gs:List Nat} {bs:List (List CV)},Bwz σ gs=some bs→bs.length=gs.length∧∀(g:Nat) (s:Nat) (b:List CV),gs[g]? =some s→bs[g]? =some b→σ[s]? =some (.c .box b)
 |[],bs,h=>by simp[Bwz]at h;subst h;exact⟨rfl,fun g s b h1=>by simp at h1⟩
 |s::l,bs,h=>by
  simp only[Bwz]at h
  obtain⟨b,h1,h⟩:=AAz h
  obtain⟨m,h2,h⟩:=AHz h
  subst h
  obtain⟨h3,h4⟩:=DVz h2
  refine⟨by simp[h3],fun g s' b' hg hb=> ?_⟩
  cases g with
  |zero=>simp at hg hb;subst hg;subst hb;exact REz h1
  |succ g=>exact h4 g s' b' (by simpa using hg) (by simpa using hb)
def Uxz (X:Ctx) (lent:List (Nat×Nat)) (b:Nat):Prop:=∃s o q base tip,(s,o)∈lent∧X.own b=some (s,o+1,q,base,tip)
def Ctx.callee (X:Ctx) (gs:List Nat) (lent:List (Nat×Nat)) (fl:Bool) (N:Nat):Ctx:=
 {w:=X.w
  own:=fun b=>match X.own b with
   |some (s,p,t)=>(Duz gs s).map fun g=>(N+g,p,t)
   |none=>none
  va:=fun b=>Uxz X lent b∨(fl=true∧X.va b)
  vs:=X.vs}
theorem DKz {X:Ctx} {gs:List Nat} {lent:List (Nat×Nat)} {fl:Bool} {N b:Nat} {t:Own} (h:(X.callee gs lent fl N).own b=some t):
  ∃s p u g,X.own b=some (s,p,u)∧Duz gs s=some g∧t=(N+g,p,u):=by
 simp only[Ctx.callee]at h
 cases e:X.own b with
 |none=>simp[e]at h
 |some x=>
  obtain⟨s,p,u⟩:=x
  simp only[e]at h
  obtain⟨g,h1,h2⟩:=AHz h
  exact⟨s,p,u,g,rfl,h1,h2.symm⟩
theorem Gjz {X:Ctx} {gs:List Nat} {lent:List (Nat×Nat)} {fl:Bool} {N b:Nat} (h:∀s p u,X.own b=some (s,p,u)→gs.contains s=false):(X.callee gs lent fl N).own b=none:=by
 cases e:(X.callee gs lent fl N).own b with
 |none=>rfl
 |some t=>
  obtain⟨s,p,u,g,h1,h2,_⟩:=DKz e
  have:=h s p u h1
  rw[Dhz (CVz h2)]at this
  simp at this
theorem CMz {X:Ctx} {gs:List Nat} {lent:List (Nat×Nat)} {fl:Bool} {N b s p g:Nat} {u:Path×Nat×Nat} (h:X.own b=some (s,p,u)) (hg:Duz gs s=some g):(X.callee gs lent fl N).own b=some (N+g,p,u):=by
 simp[Ctx.callee,h,hg]
theorem RCz {X:Ctx} (hi:Inv X) {gs:List Nat} {lent:List (Nat×Nat)} (fl:Bool) (N:Nat) (hl:lent.all (fun x=> !gs.contains x.1)=true):Inv (X.callee gs lent fl N)where
 own:=fun b t h=>by
  obtain⟨s,p,u,g,h1,h2,_⟩:=DKz h
  have:=hi.own b _ h1
  refine⟨this.1,this.2.1,?_⟩
  rintro(⟨s',o',q,base,tip,h3,h4⟩|⟨_,h3⟩)
  ·rw[h1]at h4
   injection h4 with h4;injection h4 with h4 _
   subst h4
   have h5:=List.all_eq_true.1 hl _ h3
   simp only[Dhz (CVz h2)]at h5
   simp at h5
  ·exact this.2.2 h3
 one:=fun b b' s o q base tip base' tip' h h'=>by
  obtain⟨s1,p1,u1,g1,h1,h2,e1⟩:=DKz h
  obtain⟨s2,p2,u2,g2,h3,h4,e2⟩:=DKz h'
  injection e1 with e1 e3;injection e3 with e3 e5
  injection e2 with e2 e4;injection e4 with e4 e6
  have hg:g1=g2:=by omega
  subst hg
  have:=(CVz h2).symm.trans (CVz h4)
  injection this with this
  subst this
  have:p1=p2:=e3.symm.trans e4
  subst this
  obtain⟨a0,a1,a2⟩:=u1;obtain⟨b0,a3,a4⟩:=u2
  injection e5 with e5 _
  injection e6 with e6 _
  have:a0=b0:=e5.symm.trans e6
  subst this
  exact hi.one _ _ _ _ _ _ _ _ _ h1 h3
 vs:=hi.vs
 va:=fun b h=>by
  rcases h with⟨s,o,q,base,tip,_,h⟩|⟨_,h⟩
  ·exact(hi.own b _ h).1
  ·exact hi.va b h
theorem OQz {X:Ctx} {gs:List Nat} {lent:List (Nat×Nat)} {fl:Bool} {N:Nat} {f:Bool} (hf:f=true→fl=true) (b:Nat) (h:X.V f b):(X.callee gs lent fl N).V f b:=by
 rcases h with h|⟨h1,h⟩
 ·exact .inl h
 ·exact .inr ⟨h1,.inr ⟨hf h1,h⟩⟩
theorem S5z {X:Ctx} {gs:List Nat} {lent:List (Nat×Nat)} {fl:Bool} {N:Nat} {f:Bool} {v:Value} {p:PV} (hf:(!p.scalar&&f)=true→fl=true) (h:Rd X.w.heap (X.V f) v p):Rd X.w.heap ((X.callee gs lent fl N).V f) v p:=by
 cases hs:p.scalar with
 |true=>exact h.scalar hs
 |false=>exact h.mono fun b hb=>⟨OQz (fun e=>hf (by simp[hs,e])) b hb,rfl⟩
theorem PLz {X:Ctx} {gs:List Nat} {lent:List (Nat×Nat)} {fl:Bool} {N s g j:Nat} (hg:Duz gs s=some g) {v:Value} {c:CV} (hb:noBr c=true) (hf:c.flag=true→fl=true) (h:CVRel X s j v c):CVRel (X.callee gs lent fl N) (N+g) j v c:=by
 cases h with
 |sh f p v h=>exact .sh f p v (S5z (by simpa[CV.flag]using hf) h)
 |ow0 f es a=>exact .ow0 f es a
 |ow f es rows v blk off cap c elem fr h=>
  exact .ow f es rows v blk off cap c elem fr ⟨h.val,h.le,CMz h.own hg,h.cells,h.fits,h.loose,h.reads.mono (fun b hb=>⟨OQz (by simpa[CV.flag]using hf) b hb,rfl⟩) fun b q base tip ho=>⟨CMz ho hg,rfl⟩⟩
 |br0=>simp[noBr]at hb
 |br=>simp[noBr]at hb
 |brv=>simp[noBr]at hb
 |dead v=>exact .dead v
theorem Inz {X:Ctx} {gs:List Nat} {lent:List (Nat×Nat)} {fl:Bool} {N s g:Nat} (hg:Duz gs s=some g):∀{j:Nat} {vs:List Value} {l:List CV},l.all noBr=true→(l.any CV.flag=true→fl=true)→
  CellsRel X s j vs l→CellsRel (X.callee gs lent fl N) (N+g) j vs l
 |j,[],[],hb,hf,.nil _=> .nil j
 |j,v::vs,cv::l,hb,hf,.cons _ _ _ _ _ h t=>by
  simp only[List.all_cons,Bool.and_eq_true]at hb
  exact .cons j v cv vs l (PLz hg hb.1 (fun e=>hf (by simp[e])) h) (Inz hg hb.2 (fun e=>hf (by simp only[List.any_cons,e,Bool.or_true])) t)
theorem SJz {X:Ctx} {gs:List Nat} {lent:List (Nat×Nat)} {fl:Bool} {N:Nat} {v:Value} {c c':CV} {l:List (Nat×Nat)} {f:Bool} (h:∀k j,CVRel X k j v c) (e:Mfz c=some (c',l,f)) (hl:∀x∈l,x∈lent) (hf:f=true→fl=true):
  ∀k j,CVRel (X.callee gs lent fl N) k j v c':=by
 intro k j
 unfold Mfz at e
 split at e
 ·rename_i f0 p
  injection e with e;injection e with e1 e;injection e with e2 e3;subst e1;subst e2;subst e3
  have:=h 0 0
  cases this with
  |sh _ _ _ h=>
   refine .sh _ p v ?_
   cases hs:p.scalar with
   |true=>exact h.scalar hs
   |false=>
    refine h.mono fun b hb=>⟨?_,rfl⟩
    rcases hb with hb|⟨h1,hb⟩
    ·exact .inl hb
    ·exact .inr ⟨rfl,.inr ⟨hf (by simp[hs,h1]),hb⟩⟩
 ·rename_i f0 es
  injection e with e;injection e with e1 e;injection e with e2 e3;subst e1;subst e2;subst e3
  obtain⟨_,a,rfl⟩:=Dvz fun k=>h k 0
  exact .sh true _ _ (.s0 a 0 es)
 ·rename_i s o q kd lo f0 es rows
  injection e with e;injection e with e1 e;injection e with e2 e3;subst e1;subst e2;subst e3
  have:=h 0 0
  refine .sh true _ v ?_
  have hV:∀b,X.V f0 b→(X.callee gs lent fl N).V true b∧(X.callee gs lent fl N).w.heap[b]? =X.w.heap[b]? :=fun b hb=>by
   refine⟨?_,rfl⟩
   rcases hb with hb|⟨h1,hb⟩
   ·exact .inl hb
   ·exact .inr ⟨rfl,.inr ⟨hf h1,hb⟩⟩
  have hO:∀b p base tip,X.own b=some (s,o+1,p,base,tip)→(X.callee gs lent fl N).V true b∧(X.callee gs lent fl N).w.heap[b]? =X.w.heap[b]? :=fun b p base tip ho=>⟨.inr ⟨rfl,.inl ⟨s,o,p,base,tip,hl _ (by simp),ho⟩⟩,rfl⟩
  cases this with
  |br0 _ _ _ _ _ _ _ a=>exact .s0 a 0 es
  |br _ _ _ _ _ _ _ _ _ blk base tip cap cc elem fr hb=>
   rw[hb.val]
   exact .s blk _ _ cap es cc elem fr _ (hO _ _ _ _ hb.own).1 hb.cells (A6z _).symm hb.le (hb.reads.erd hV hO)
  |brv _ _ _ _ _ _ _ _ hb=>
   cases hb with
   |s0 a cap=>exact .s0 a cap es
   |s blk off n cap c elem fr _ hv hb hn hc hr=>exact .s blk off n cap es c elem fr _ (hV _ hv).1 hb (by rw[A6z];exact hn) hc (hr.erd hV hO)
 ·simp at e
theorem Guz {X:Ctx} {gs:List Nat} {lent:List (Nat×Nat)} {fl:Bool} {N:Nat}:∀{vs:List Value} {cs cs':List CV} {l:List (Nat×Nat)} {f:Bool},VCells X vs cs→Dwz cs=some (cs',l,f)→(∀x∈l,x∈lent)→(f=true→fl=true)→
  VCells (X.callee gs lent fl N) vs cs'
 |_,_,cs',l,f,.nil,e,hl,hf=>by
  simp only[Dwz]at e
  injection e with e;injection e with e1 e;subst e1
  exact .nil
 |_,_,cs',l,f,.cons v c vs cs h t,e,hl,hf=>by
  simp only[Dwz]at e
  obtain⟨⟨c1,l1,f1⟩,e1,e⟩:=AAz e
  obtain⟨⟨c2,l2,f2⟩,e2,e⟩:=AHz e
  injection e with e3 e;injection e with e4 e5;subst e3;subst e4;subst e5
  exact .cons v c1 vs c2 (SJz h e1 (fun x hx=>hl x (by simp[hx])) (fun e=>hf (by simp[e]))) (Guz t e2 (fun x hx=>hl x (by simp[hx])) (fun e=>hf (by simp[e])))
theorem QUz {k n i x:Nat} (h:(List.range' k n)[i]? =some x):x=k+i∧i<n:=by
 rw[List.getElem?_eq_some_iff]at h
 obtain⟨h1,h2⟩:=h
 rw[List.getElem_range']at h2
 simp at h1
 exact⟨by omega,h1⟩
theorem Ddz {X:Ctx} {gs:List Nat} {lent:List (Nat×Nat)} {fl:Bool} {N:Nat} (hn:Ckz gs=true):∀{vs:List Value} {xs xs':List SV} {k:Nat} {l:List (Nat×Nat)} {f:Bool},OSVs X vs xs→Aaz k xs=some (xs',l,f)→
  (∀i s,(xs.flatMap Ajz)[i]? =some s→gs[k+i]? =some s)→(∀x∈l,x∈lent)→(f=true→fl=true)→
  OSVs (X.callee gs lent fl N) vs (xs'.map (Biz N))
 |_,_,xs',k,l,f,.nil,e,hk,hl,hf=>by
  simp only[Aaz]at e
  injection e with e;injection e with e1 e;subst e1
  exact .nil
 |_,_,xs',k,l,f,.cons v x vs xs h t,e,hk,hl,hf=>by
  unfold Aaz at e
  split at e
  ·rename_i e0;cases e0
  ·rename_i k0 cs l0 e0
   injection e0 with e0 e0';subst e0;subst e0'
   obtain⟨⟨c1,l1,f1⟩,e1,e⟩:=AAz e
   obtain⟨⟨c2,l2,f2⟩,e2,e⟩:=AHz e
   injection e with e3 e;injection e with e4 e5;subst e3;subst e4;subst e5
   obtain⟨us,hfl,hc⟩:=CGz h (by simp)
   exact .cons v _ vs _ (D6z hfl (Guz hc e1 (fun x hx=>hl x (by simp[hx])) (fun e=>hf (by simp[e])))) (Ddz hn t e2 (fun i s hi=>hk i s (by simpa[Ajz]using hi)) (fun x hx=>hl x (by simp[hx])) (fun e=>hf (by simp[e])))
  ·rename_i k0 cs l0 e0
   injection e0 with e0 e0';subst e0;subst e0'
   obtain⟨⟨c1,l1,f1⟩,e1,e⟩:=AAz e
   obtain⟨⟨c2,l2,f2⟩,e2,e⟩:=AHz e
   injection e with e3 e;injection e with e4 e5;subst e3;subst e4;subst e5
   obtain⟨us,hfl,hc⟩:=CGz h (by simp)
   exact .cons v _ vs _ (D6z hfl (Guz hc e1 (fun x hx=>hl x (by simp[hx])) (fun e=>hf (by simp[e])))) (Ddz hn t e2 (fun i s hi=>hk i s (by simpa[Ajz]using hi)) (fun x hx=>hl x (by simp[hx])) (fun e=>hf (by simp[e])))
  ·rename_i k0 s l0 e0
   injection e0 with e0 e0';subst e0;subst e0'
   obtain⟨⟨c2,l2,f2⟩,e2,e⟩:=AHz e
   injection e with e3 e;injection e with e4 e5;subst e3;subst e4;subst e5
   refine .cons v _ vs _ (fun j=> ?_) (Ddz hn t e2 (fun i s hi=>by
    have:=hk (i+1) s (by simpa[Ajz]using hi)
    rw[←this];congr 1;omega) hl hf)
   have h0:=h 0
   have hp:=ELz hn (hk 0 s (by simp[Ajz]))
   cases h0 with
   |bp _ _ blk base tip ho=>exact .bp _ 0 blk base tip (CMz ho hp)
  ·rename_i k0 g caps l0 e0
   injection e0 with e0 e0';subst e0;subst e0'
   obtain⟨⟨c2,l2,f2⟩,e2,e⟩:=AHz e
   injection e with e3 e;injection e with e4 e5;subst e3;subst e4;subst e5
   refine .cons v _ vs _ (fun j=> ?_) (Ddz hn t e2 (fun i s hi=>by
    have:=hk (caps.length+i) s (by
     simp only[List.flatMap_cons,Ajz]
     rw[List.getElem?_append_right (by omega)]
     simpa using hi)
    rw[←this];congr 1;omega) hl hf)
   have h0:=h 0
   cases h0 with
   |fn _ _ cs hs hc=>
    refine .fn g _ cs (by simp[hs]) fun i v s h1 h2=> ?_
    simp only[List.getElem?_map]at h2
    obtain⟨x,h3,h4⟩:=AHz h2
    obtain⟨h5,h6⟩:=QUz h3
    subst h5;subst h4
    have h7:caps[i]? =some (caps[i]'h6):=List.getElem?_eq_getElem h6
    obtain⟨blk,base,tip,e1,ho⟩:=hc i v _ h1 h7
    have hp:=ELz hn (hk i _ (by
     simp only[List.flatMap_cons,Ajz]
     rw[List.getElem?_append_left h6]
     exact h7))
    exact⟨blk,base,tip,e1,CMz ho hp⟩
  ·simp at e
end Go.Proofs.YtblelojdboefjaaGreatDoor.R
namespace Go.Proofs.YtblelojdboefjaaGreatDoor.R
open Go
theorem OSVs.length {X:Ctx}:∀{vs:List Value} {xs:List SV},OSVs X vs xs→vs.length=xs.length
 |_,_,.nil=>rfl
 |_,_,.cons v x vs xs h t=>by simp[OSVs.length t]
theorem OSVs.get {X:Ctx}:∀{vs:List Value} {xs:List SV},OSVs X vs xs→∀(i:Nat) (v:Value) (x:SV),vs[i]? =some v→xs[i]? =some x→OSV X v x
 |_,_,.nil,i,v,x,h1,h2=>by simp at h1
 |_,_,.cons v x vs xs h t,0,_,_,h1,h2=>by simp at h1 h2;subst h1;subst h2;exact h
 |_,_,.cons v x vs xs h t,i+1,_,_,h1,h2=>OSVs.get t i _ _ (by simpa using h1) (by simpa using h2)
def gvals (vs:List Value) (gs:List Nat):List Value:=gs.map fun s=>vs.getD s undef
theorem PKz {X:Ctx} {vs:List Value} {σ:St} (hg:Good X vs σ NoE) {gs:List Nat} {bs:List (List CV)} (hn:Ckz gs=true) (hb:Bwz σ gs=some bs) (hbr:bs.all (·.all noBr)=true) {lent:List (Nat×Nat)} (hl:lent.all (fun x=> !gs.contains x.1)=true)
  {fl:Bool} (hfl:bs.any (·.any CV.flag)=true→fl=true) {N:Nat} {argv:List Value} {args:List SV} (ha:OSVs (X.callee gs lent fl N) argv args) (hN:args.length≤N):
  Good (X.callee gs lent fl N) (argv++List.replicate (N - args.length) undef++gvals vs gs) (args++List.replicate (N - args.length) .undef++bs.map (.c .box)) NoE:=by
 obtain⟨h1,h2⟩:=DVz hb
 have hal:=ha.length
 refine⟨RCz hg.inv fl N hl,⟨by simp[gvals,h1,hal],?_⟩,?_,?_⟩
 ·intro k v sv hv hs
  by_cases hk:k<args.length
  ·rw[List.getElem?_append_left (by simp;omega),List.getElem?_append_left (by omega)]at hv hs
   exact ha.get k v sv hv hs k
  ·by_cases hk2:k<N
   ·rw[List.getElem?_append_left (by simp;omega),List.getElem?_append_right (by omega)]at hs
    rw[List.getElem?_replicate]at hs
    split at hs
    ·injection hs with hs;subst hs;exact .undef v
    ·simp at hs
   ·rw[List.getElem?_append_right (by simp;omega)]at hv hs
    simp only[List.length_append,List.length_replicate]at hv hs
    have e1:k - (argv.length+(N - args.length))=k - N:=by omega
    have e2:k - (args.length+(N - args.length))=k - N:=by omega
    rw[e1]at hv;rw[e2]at hs
    simp only[List.getElem?_map,gvals]at hv hs
    obtain⟨s,hs1,hs2⟩:=AHz hv
    obtain⟨b,hb1,hb2⟩:=AHz hs
    subst hb2
    have hσ:=h2 _ _ _ hs1 hb1
    have hlt:s<σ.length:=by
     rw[List.getElem?_eq_some_iff]at hσ;exact hσ.1
    have hvv:vs[s]? =some v:=by
     rw[←hs2]
     rw[List.getElem?_eq_getElem (by rw[hg.frame.1];exact hlt)]
     simp[List.getD_eq_getElem?_getD,List.getElem?_eq_getElem (show s<vs.length by rw[hg.frame.1];exact hlt)]
    have:=hg.frame.2 s v _ hvv hσ
    have hp:=ELz hn hs1
    cases this with
    |c _ _ _ _ hf _=>cases hf
    |box blk base tip c elem fr l ho hbk hfr hc=>
     have hk3:N+(k - N)=k:=by omega
     rw[←hk3]
     refine .box blk base tip c elem fr b (CMz ho hp) hbk hfr (Inz hp ?_ ?_ hc)
     ·exact List.all_eq_true.1 hbr b (List.mem_of_getElem? hb1)
     ·exact fun e=>hfl (List.any_eq_true.2 ⟨b,List.mem_of_getElem? hb1,e⟩)
 ·intro b s p q base tip ho
  right
  obtain⟨s',p',u,g,e1,e2,e3⟩:=DKz ho
  injection e3 with e3 e4;injection e4 with e4 e5
  subst e3;subst e4
  have h3:=(hg.tags.cell b s' p u.1 u.2.1 u.2.2 e1).resolve_left id
  have hgs:=CVz e2
  have hlt:g<gs.length:=by rw[List.getElem?_eq_some_iff]at hgs;exact hgs.1
  obtain⟨bb,hbb⟩:∃bb,bs[g]? =some bb:=⟨_,List.getElem?_eq_getElem (by omega)⟩
  have hσ:=h2 _ _ _ hgs hbb
  rw[Blz hσ]at h3
  have:(args++List.replicate (N - args.length) SV.undef++bs.map (SV.c .box))[N+g]? =some (.c .box bb):=by
   rw[List.getElem?_append_right (by simp;omega)]
   simp only[List.length_append,List.length_replicate]
   rw[show N+g - (args.length+(N - args.length))=g from by omega]
   simp[hbb]
  rw[Blz this]
  exact h3
 ·intro b s q base tip ho
  obtain⟨s',p',u,g,e1,e2,e3⟩:=DKz ho
  injection e3 with e3 e4;injection e4 with e4 e5
  subst e3;subst e4
  have hgs:=CVz e2
  have hlt:g<gs.length:=by rw[List.getElem?_eq_some_iff]at hgs;exact hgs.1
  obtain⟨bb,hbb⟩:∃bb,bs[g]? =some bb:=⟨_,List.getElem?_eq_getElem (by omega)⟩
  refine⟨bb,?_⟩
  rw[List.getElem?_append_right (by simp;omega)]
  simp only[List.length_append,List.length_replicate]
  rw[show N+g - (args.length+(N - args.length))=g from by omega]
  simp[hbb]
def Bvz (P:Program) (call:CallF):Prop:=∀g args bs r,call g args bs=some r→∃N,args.length≤N∧
 ∀(X:Ctx) (argv gv:List Value),argv.length=args.length→Good X (argv++List.replicate (N - args.length) undef++gv) (args.map (Biz N)++List.replicate (N - args.length) .undef++bs.map (.c .box)) NoE→
  Lands P g argv.toArray X.w fun v w'=>∃X',X'.w=w'∧Goes X X'∧Good X' (v::gv) (r.res::r.boxes.map (.c .box)) NoE
def Ctx.back (X X':Ctx) (gs:List Nat) (lent:List (Nat×Nat)) (any:Bool) (d:Option Nat):Ctx:=
 {w:=X'.w
  own:=fun b=>match X'.own b with
   |some (0,p,t)=>d.map fun d=>(d,p,t)
   |some (k+1,p,t)=>(gs[k]?).map fun s=>(s,p,t)
   |none=>match X.own b with
    |some (s,p,t)=>if gs.contains s=true∨(any=true∧p≠0∧lent.contains (s,p - 1)=true)then none else some (s,p,t)
    |none=>none
  va:=X.va
  vs:=fun b=>X'.vs b∨(any=true∧Uxz X lent b)}
section
variable {X X':Ctx} {gs:List Nat} {lent:List (Nat×Nat)} {fl any:Bool} {N:Nat} {d:Option Nat}
theorem Btz {b:Nat} {t:Own} (h:(X.back X' gs lent any d).own b=some t):
  (∃p u d',X'.own b=some (0,p,u)∧d=some d'∧t=(d',p,u))∨(∃k s p u,X'.own b=some (k+1,p,u)∧gs[k]? =some s∧t=(s,p,u))∨
  (∃s p u,X'.own b=none∧X.own b=some (s,p,u)∧gs.contains s=false∧¬(any=true∧p≠0∧lent.contains (s,p - 1)=true)∧t=(s,p,u)):=by
 simp only[Ctx.back]at h
 cases e:X'.own b with
 |some x=>
  obtain⟨k,p,u⟩:=x
  cases k with
  |zero=>
   simp only[e]at h
   obtain⟨d',h1,h2⟩:=AHz h
   exact .inl ⟨p,u,d',rfl,h1,h2.symm⟩
  |succ k=>
   simp only[e]at h
   obtain⟨s,h1,h2⟩:=AHz h
   exact .inr (.inl ⟨k,s,p,u,rfl,h1,h2.symm⟩)
 |none=>
  simp only[e]at h
  cases e2:X.own b with
  |none=>simp[e2]at h
  |some x=>
   obtain⟨s,p,u⟩:=x
   simp only[e2]at h
   split at h
   ·simp at h
   ·rename_i hc
    injection h with h
    refine .inr (.inr ⟨s,p,u,rfl,rfl,?_,fun hh=>hc (.inr hh),h.symm⟩)
    cases hcc:gs.contains s with
    |false=>rfl
    |true=>exact absurd (.inl hcc) hc
theorem Umz {b p:Nat} {u:Path×Nat×Nat} {d':Nat} (h:X'.own b=some (0,p,u)):(X.back X' gs lent any (some d')).own b=some (d',p,u):=by
 simp[Ctx.back,h]
theorem Jzz {b k s p:Nat} {u:Path×Nat×Nat} (h:X'.own b=some (k+1,p,u)) (hs:gs[k]? =some s):(X.back X' gs lent any d).own b=some (s,p,u):=by
 simp[Ctx.back,h,hs]
theorem Foz {hi:Inv X} (G:Goes (X.callee gs lent fl N) X') {b:Nat} (hb:b<X.w.heap.size) (h:∀s p u,X.own b=some (s,p,u)→gs.contains s=false):X'.own b=none∧X'.w.heap[b]? =X.w.heap[b]? :=by
 have h1:=Gjz (gs:=gs) (lent:=lent) (fl:=fl) (N:=N) h
 refine⟨?_,G.keep b hb h1⟩
 cases e:X'.own b with
 |none=>rfl
 |some t=>
  rcases G.own' b (by simp[e])with h2|h2
  ·exact absurd h1 h2
  ·have:X.w.heap.size≤b:=h2
   omega
theorem DAz (hi:Inv X) (G:Goes (X.callee gs lent fl N) X') {b s p:Nat} {u:Path×Nat×Nat} (h:X.own b=some (s,p,u)) (hs:gs.contains s=false) (hl:¬(any=true∧p≠0∧lent.contains (s,p - 1)=true)):
  (X.back X' gs lent any d).own b=some (s,p,u)∧X'.w.heap[b]? =X.w.heap[b]? :=by
 obtain⟨h1,h2⟩:=Foz (hi:=hi) G (hi.own b _ h).1 (fun s' p' u' e=>by rw[h]at e;injection e with e;injection e with e _;subst e;exact hs)
 refine⟨?_,h2⟩
 simp only[Ctx.back,h1,h]
 rw[if_neg]
 rintro(h3|h3)
 ·rw[hs]at h3;simp at h3
 ·exact hl h3
theorem LBz (hi:Inv X) {f:Bool} {b:Nat} (h:X.V f b):X.own b=none∧b<X.w.heap.size:=by
  refine⟨?_,?_⟩
  · cases e:X.own b with
    |none=>rfl
    | some t => rcases h with h | ⟨_, h⟩
                · exact absurd h (hi.own b t e).2.1
                · exact absurd h (hi.own b t e).2.2
  · rcases h with h|⟨_,h⟩
    · exact hi.vs b h
    · exact hi.va b h
theorem OZz (hi:Inv X) (G:Goes (X.callee gs lent fl N) X') (f:Bool) (b:Nat) (h:X.V f b):(X.back X' gs lent any d).V f b∧X'.w.heap[b]? =X.w.heap[b]? :=by
 obtain⟨h1,h2⟩:=LBz hi h
 refine⟨?_,(Foz (hi:=hi) G h2 (fun s p u e=>by rw[h1]at e;simp at e)).2⟩
 rcases h with h|⟨e,h⟩
 ·exact .inl (.inl (G.vs b h))
 ·exact .inr ⟨e,h⟩
theorem Ipz (hi:Inv X) (hl:lent.all (fun x=> !gs.contains x.1)=true) (G:Goes (X.callee gs lent fl N) X') (ha:any=true) {b s o:Nat} {q:Path} {base tip:Nat} (hm:lent.contains (s,o)=true) (h:X.own b=some (s,o+1,q,base,tip)) (f:Bool):
  (X.back X' gs lent any d).V f b∧X'.w.heap[b]? =X.w.heap[b]? :=by
 have hm':(s,o)∈lent:=by simpa using hm
 have hs:gs.contains s=false:=by
  have:=List.all_eq_true.1 hl _ hm'
  simpa using this
 refine⟨.inl (.inr ⟨ha,s,o,q,base,tip,hm',h⟩),(Foz (hi:=hi) G (hi.own b _ h).1 (fun s' p' u' e=>by rw[h]at e;injection e with e;injection e with e _;subst e;exact hs)).2⟩
theorem S9z (hi:Inv X) (G:Goes (X.callee gs lent fl N) X'):Goes X (X.back X' gs lent any d)where
 os:=G.os
 tape:=G.tape
 output:=G.output
 size:=G.size
 keep:=fun b hb h=>(Foz (hi:=hi) G hb (fun s p u e=>by rw[h]at e;simp at e)).2
 va:=rfl
 vs:=fun b h=> .inl (G.vs b h)
 vs':=fun b h=>by
  rcases h with h|⟨_,s,o,q,base,tip,_,h⟩
  ·rcases G.vs' b h with h|h|h
   ·exact .inl h
   ·refine .inr (.inl fun e=>h ?_)
    simp[Ctx.callee,e]
   ·exact .inr (.inr h)
  ·exact .inr (.inl (by simp[h]))
 own':=fun b h=>by
  cases e:(X.back X' gs lent any d).own b with
  |none=>exact absurd e h
  |some t=>
   have hX':X'.own b≠none→X.own b≠none∨X.w.heap.size≤b:=fun h1=>by
    rcases G.own' b h1 with h2|h2
    ·refine .inl fun e=>h2 ?_
     simp[Ctx.callee,e]
    ·exact .inr h2
   rcases Btz e with⟨p,u,d',h1,_⟩|⟨k,s,p,u,h1,_⟩|⟨s,p,u,_,h1,_⟩
   ·exact hX' (by simp[h1])
   ·exact hX' (by simp[h1])
   ·exact .inl (by simp[h1])
theorem Uoz (hi:Inv X) (hi':Inv X') (hn:Ckz gs=true) (hl:lent.all (fun x=> !gs.contains x.1)=true) (G:Goes (X.callee gs lent fl N) X') (hd:∀d',d=some d'→gs.contains d'=false∧∀b p q base tip,X.own b≠some (d',p,q,base,tip)):Inv (X.back X' gs lent any d)where
 own:=fun b t h=>by
  have hX':∀t',X'.own b=some t'→b<X'.w.heap.size∧¬(X.back X' gs lent any d).vs b∧¬X.va b:=fun t' h1=>by
   have h2:=hi'.own b t' h1
   refine⟨h2.1,?_,?_⟩
   ·rintro(h3|⟨_,h3⟩)
    ·exact h2.2.1 h3
    ·refine h2.2.2 ?_
     rw[G.va]
     exact .inl h3
   ·intro h3
    rcases G.own' b (by simp[h1])with h4|h4
    ·cases e:(X.callee gs lent fl N).own b with
     |none=>exact h4 e
     |some t2=>
      obtain⟨s,p,u,g,h5,_⟩:=DKz e
      exact(hi.own b _ h5).2.2 h3
    ·have h5:X.w.heap.size≤b:=h4
     have:=hi.va b h3
     omega
  rcases Btz h with⟨p,u,d',h1,_⟩|⟨k,s,p,u,h1,_⟩|⟨s,p,u,h0,h1,h2,h3,_⟩
  ·exact hX' _ h1
  ·exact hX' _ h1
  ·have h4:=hi.own b _ h1
   refine⟨Nat.lt_of_lt_of_le h4.1 G.size,?_,h4.2.2⟩
   rintro(h5|⟨ha,s',o',q',base,tip,h5,h6⟩)
   ·rcases G.vs' b h5 with h6|h6|h6
    ·exact h4.2.1 h6
    ·exact h6 (Gjz fun s' p' u' e=>by rw[h1]at e;injection e with e;injection e with e _;subst e;exact h2)
    ·have h7:X.w.heap.size≤b:=h6
     omega
   ·rw[h1]at h6
    injection h6 with h6;injection h6 with h6 h7;injection h7 with h7 _
    subst h6;subst h7
    exact h3 ⟨ha,by omega,by simpa using h5⟩
 one:=fun b b' s o q base tip base' tip' h h'=>by
  have hgs:∀k s,gs[k]? =some s→gs.contains s=true:=fun k s h=>Dhz h
  rcases Btz h with⟨p,u,d',h1,h2,h3⟩|⟨k,s1,p,u,h1,h2,h3⟩|⟨s1,p,u,h0,h1,h2,_,h3⟩
  ·rcases Btz h' with⟨p',u',d'',h1',h2',h3'⟩|⟨k',s1',p',u',h1',h2',h3'⟩|⟨s1',p',u',h0',h1',h2',_,h3'⟩
   ·injection h3 with _ h3;injection h3 with h3 h4
    injection h3' with _ h3';injection h3' with h3' h4'
    subst h3;subst h3';subst h4;subst h4'
    exact hi'.one _ _ _ _ _ _ _ _ _ h1 h1'
   ·injection h3 with h3 _;injection h3' with h3' _
    subst h3;subst h3'
    have:=(hd _ h2).1
    rw[hgs _ _ h2']at this;simp at this
   ·injection h3 with h3 _;injection h3' with h3' _
    subst h3;subst h3'
    exact absurd h1' ((hd _ h2).2 _ _ _ _ _)
  ·rcases Btz h' with⟨p',u',d'',h1',h2',h3'⟩|⟨k',s1',p',u',h1',h2',h3'⟩|⟨s1',p',u',h0',h1',h2',_,h3'⟩
   ·injection h3 with h3 _;injection h3' with h3' _
    subst h3;subst h3'
    have:=(hd _ h2').1
    rw[hgs _ _ h2]at this;simp at this
   ·injection h3 with h3 h4;injection h4 with h4 h5
    injection h3' with h3' h4';injection h4' with h4' h5'
    subst h3;subst h4;subst h3';subst h4';subst h5;subst h5'
    have e1:=ELz hn h2
    have e2:=ELz hn h2'
    rw[e1]at e2;injection e2 with e2;subst e2
    exact hi'.one _ _ _ _ _ _ _ _ _ h1 h1'
   ·injection h3 with h3 _;injection h3' with h3' _
    subst h3;subst h3'
    rw[hgs _ _ h2]at h2';simp at h2'
  ·rcases Btz h' with⟨p',u',d'',h1',h2',h3'⟩|⟨k',s1',p',u',h1',h2',h3'⟩|⟨s1',p',u',h0',h1',h2',_,h3'⟩
   ·injection h3 with h3 _;injection h3' with h3' _
    subst h3;subst h3'
    exact absurd h1 ((hd _ h2').2 _ _ _ _ _)
   ·injection h3 with h3 _;injection h3' with h3' _
    subst h3;subst h3'
    rw[hgs _ _ h2']at h2;simp at h2
   ·injection h3 with h3 h4;injection h4 with h4 h5
    injection h3' with h3' h4';injection h4' with h4' h5'
    subst h3;subst h4;subst h3';subst h4';subst h5;subst h5'
    exact hi.one _ _ _ _ _ _ _ _ _ h1 h1'
 vs:=fun b h=>by
  rcases h with h|⟨_,s,o,q,base,tip,_,h⟩
  ·exact hi'.vs b h
  ·exact Nat.lt_of_lt_of_le (hi.own b _ h).1 G.size
 va:=fun b h=>Nat.lt_of_lt_of_le (hi.va b h) G.size
end
end Go.Proofs.YtblelojdboefjaaGreatDoor.R
namespace Go.Proofs.YtblelojdboefjaaGreatDoor.R
open Go
theorem GTz:∀(gs:List Nat) (ms:List (List CV)) (σ:St),(BPz gs ms σ).length=σ.length
 |[],ms,σ=>by cases ms<;>rfl
 |s::l,[],σ=>rfl
 |s::l,b::m,σ=>by simp[BPz,GTz l m]
theorem Ejz:∀{gs:List Nat} {ms:List (List CV)} {σ:St} {k:Nat},gs.contains k=false→(BPz gs ms σ)[k]? =σ[k]?
 |[],ms,σ,k,h=>by cases ms<;>rfl
 |s::l,[],σ,k,h=>rfl
 |s::l,b::m,σ,k,h=>by
  simp only[List.contains_cons,Bool.or_eq_false_iff]at h
  simp only[BPz]
  rw[Ejz h.2,List.getElem?_set_ne (by intro e;subst e;simp at h)]
theorem JIz:∀{gs:List Nat} {ms:List (List CV)} {σ:St} {g s:Nat} {m:List CV},Ckz gs=true→gs[g]? =some s→ms[g]? =some m→s<σ.length→(BPz gs ms σ)[s]? =some (.c .box m)
 |[],ms,σ,g,s,m,hn,h1,h2,h3=>by simp at h1
 |x::l,[],σ,g,s,m,hn,h1,h2,h3=>by simp at h2
 |x::l,b::ms,σ,g,s,m,hn,h1,h2,h3=>by
  simp only[Ckz,Bool.and_eq_true,Bool.not_eq_true']at hn
  simp only[BPz]
  cases g with
  |zero=>
   simp at h1 h2;subst h1;subst h2
   rw[Ejz hn.1,List.getElem?_set_self h3]
  |succ g=>exact JIz hn.2 (by simpa using h1) (by simpa using h2) (by simpa using h3)
section
variable {X X':Ctx} {gs:List Nat} {lent:List (Nat×Nat)} {fl any:Bool} {N:Nat} {d:Option Nat}
theorem SYz (G:Goes (X.callee gs lent fl N) X') {f:Bool} (ha:f=true→any=true) {b:Nat} (h:X'.V f b):(X.back X' gs lent any d).V (f&&fl) b:=by
 rcases h with h|⟨e,h⟩
 ·exact .inl (.inl h)
 ·rw[G.va]at h
  rcases h with h|⟨e2,h⟩
  ·exact .inl (.inr ⟨ha e,h⟩)
  ·exact .inr ⟨by simp[e,e2],h⟩
theorem SXz (G:Goes (X.callee gs lent fl N) X') {k s:Nat} (ht:∀b p u,X'.own b=some (k,p,u)→(X.back X' gs lent any d).own b=some (s,p,u)) {j:Nat} {v:Value} {c:CV} (hb:noBr c=true) (ha:c.flag=true→any=true)
  (h:CVRel X' k j v c):CVRel (X.back X' gs lent any d) s j v (c.reflag fl):=by
 cases h with
 |sh f p v h=>
  refine .sh (f&&fl) p v ?_
  cases hs:p.scalar with
  |true=>exact h.scalar hs
  |false=>exact h.mono fun b hb=>⟨SYz G (fun e=>ha (by simp[CV.flag,hs,e])) hb,rfl⟩
 |ow0 f es a=>exact .ow0 _ es a
 |ow f es rows v blk off cap c elem fr h=>
  exact .ow _ es rows v blk off cap c elem fr ⟨h.val,h.le,ht _ _ _ h.own,h.cells,h.fits,h.loose,h.reads.mono (fun b hb=>⟨SYz G (by simpa[CV.flag]using ha) hb,rfl⟩) fun b q base tip ho=>⟨ht _ _ _ ho,rfl⟩⟩
 |br0=>simp[noBr]at hb
 |br=>simp[noBr]at hb
 |brv=>simp[noBr]at hb
 |dead v=>exact .dead v
theorem Hgz (G:Goes (X.callee gs lent fl N) X') {k s:Nat} (ht:∀b p u,X'.own b=some (k,p,u)→(X.back X' gs lent any d).own b=some (s,p,u)):∀{j:Nat} {vs:List Value} {l:List CV},l.all noBr=true→(l.any CV.flag=true→any=true)→
  CellsRel X' k j vs l→CellsRel (X.back X' gs lent any d) s j vs (l.map (CV.reflag fl))
 |j,[],[],hb,hf,.nil _=> .nil j
 |j,v::vs,cv::l,hb,hf,.cons _ _ _ _ _ h t=>by
  simp only[List.all_cons,Bool.and_eq_true]at hb
  exact .cons j v _ vs _ (SXz G ht hb.1 (fun e=>hf (by simp[e])) h) (Hgz G ht hb.2 (fun e=>hf (by simp only[List.any_cons,e,Bool.or_true])) t)
theorem SRz (hi:Inv X) (hl:lent.all (fun x=> !gs.contains x.1)=true) (G:Goes (X.callee gs lent fl N) X') {k j:Nat} (hk:gs.contains k=false) {v:Value} {c:CV} (h:CVRel X k j v c):
  CVRel (X.back X' gs lent any d) k j v (COz gs lent any k j c):=by
 have hV:∀f b,X.V f b→(X.back X' gs lent any d).V f b∧(X.back X' gs lent any d).w.heap[b]? =X.w.heap[b]? :=fun f b h=>OZz hi G f b h
 cases h with
 |sh f p v h=>exact .sh f p v (h.mono (hV f))
 |ow0 f es a=>
  simp only[COz]
  split
  ·exact .sh f _ _ (.s0 a 0 es)
  ·exact .ow0 f es a
 |ow f es rows v blk off cap c elem fr h=>
  simp only[COz]
  split
  ·rename_i hc
   simp only[Bool.and_eq_true]at hc
   have hO:∀b q base tip,X.own b=some (k,j+1,q,base,tip)→(X.back X' gs lent any d).V f b∧(X.back X' gs lent any d).w.heap[b]? =X.w.heap[b]? :=fun b q base tip ho=>Ipz (d:=d) hi hl G hc.1 hc.2 ho f
   refine .sh f _ v ?_
   rw[h.val]
   exact .s blk off _ cap es c elem fr _ (hO _ _ _ _ h.own).1 ((hO _ _ _ _ h.own).2.trans h.cells) (A6z _).symm h.le (h.reads.erd (hV f) hO)
  ·rename_i hc
   have hO:∀b q base tip,X.own b=some (k,j+1,q,base,tip)→(X.back X' gs lent any d).own b=some (k,j+1,q,base,tip)∧(X.back X' gs lent any d).w.heap[b]? =X.w.heap[b]? :=fun b q base tip ho=>DAz (d:=d) (any:=any) hi G ho hk (by rintro⟨h2,_,h3⟩;exact hc (by simpa[h2]using h3))
   exact .ow f es rows v blk off cap c elem fr ⟨h.val,h.le,(hO _ _ _ _ h.own).1,(hO _ _ _ _ h.own).2.trans h.cells,h.fits,h.loose,h.reads.mono (hV f) hO⟩
 |br0 a b q kd lo f es ad=>
  simp only[COz]
  split
  ·exact .dead _
  ·split
   ·exact .sh f _ _ (.s0 ad 0 es)
   ·exact .br0 a b q kd lo f es ad
 |br a b q kd lo f es rows v blk base tip cap c elem fr h=>
  simp only[COz]
  split
  ·exact .dead _
  ·rename_i hg
   have hg:gs.contains a=false:=by simpa using hg
   split
   ·rename_i hc
    simp only[Bool.and_eq_true]at hc
    have hO:∀b1 q base tip,X.own b1=some (a,b+1,q,base,tip)→(X.back X' gs lent any d).V f b1∧(X.back X' gs lent any d).w.heap[b1]? =X.w.heap[b1]? :=fun b1 q base tip ho=>Ipz (d:=d) hi hl G hc.1 hc.2 ho f
    refine .sh f _ v ?_
    rw[h.val]
    exact .s blk _ _ cap es c elem fr _ (hO _ _ _ _ h.own).1 ((hO _ _ _ _ h.own).2.trans h.cells) (A6z _).symm h.le (h.reads.erd (hV f) hO)
   ·rename_i hc
    have hO:∀b1 q base tip,X.own b1=some (a,b+1,q,base,tip)→(X.back X' gs lent any d).own b1=some (a,b+1,q,base,tip)∧(X.back X' gs lent any d).w.heap[b1]? =X.w.heap[b1]? :=fun b1 q base tip ho=>DAz (d:=d) (any:=any) hi G ho hg (by rintro⟨h2,_,h3⟩;exact hc (by simpa[h2]using h3))
    exact .br a b q kd lo f es rows v blk base tip cap c elem fr ⟨h.val,h.le,(hO _ _ _ _ h.own).1,(hO _ _ _ _ h.own).2.trans h.cells,h.fits,h.loose,h.tipLe,h.tip1,h.lo0,h.reads.mono (hV f) hO⟩
 |brv a b q lo f es rows v h=>
  simp only[COz]
  split
  ·exact .dead _
  ·rename_i hg
   have hg:gs.contains a=false:=by simpa using hg
   split
   ·rename_i hc
    simp only[Bool.and_eq_true]at hc
    have hO:∀b1 q base tip,X.own b1=some (a,b+1,q,base,tip)→(X.back X' gs lent any d).V f b1∧(X.back X' gs lent any d).w.heap[b1]? =X.w.heap[b1]? :=fun b1 q base tip ho=>Ipz (d:=d) hi hl G hc.1 hc.2 ho f
    refine .sh f _ _ ?_
    cases h with
    |s0 a cap=>exact .s0 a cap es
    |s blk off n cap c elem fr _ hv hb hn hc hr=>exact .s blk off n cap es c elem fr _ (hV _ _ hv).1 ((hV _ _ hv).2.trans hb) (by rw[A6z];exact hn) hc (hr.erd (hV f) hO)
   ·rename_i hc
    exact .brv a b q lo f es rows v (h.mono (hV f) fun b1 q base tip ho=>DAz (d:=d) (any:=any) hi G ho hg (by rintro⟨h2,_,h3⟩;exact hc (by simpa[h2]using h3)))
 |dead v=>exact .dead v
theorem Hcz (hi:Inv X) (hl:lent.all (fun x=> !gs.contains x.1)=true) (G:Goes (X.callee gs lent fl N) X') {k:Nat} (hk:gs.contains k=false):∀{j:Nat} {vs:List Value} {l:List CV},CellsRel X k j vs l→
  CellsRel (X.back X' gs lent any d) k j vs (Acz (COz gs lent any k) j l)
 |_,_,_,.nil j=> .nil j
 |_,_,_,.cons j v cv vs l h t=> .cons j v _ vs _ (SRz hi hl G hk h) (Hcz hi hl G hk t)
theorem Vjz (hi:Inv X) (hl:lent.all (fun x=> !gs.contains x.1)=true) (G:Goes (X.callee gs lent fl N) X') (hbox:∀b base tip s,gs.contains s=true→X.own b=some (s,0,[],base,tip)→∃base' tip',(X.back X' gs lent any d).own b=some (s,0,[],base',tip'))
  {k:Nat} (hk:gs.contains k=false) {v:Value} {sv:SV} (h:SVRel X k v sv):
  SVRel (X.back X' gs lent any d) k v (sv.mapC (COz gs lent any k) (EFz gs lent any)):=by
 have hV:∀f b,X.V f b→(X.back X' gs lent any d).V f b∧(X.back X' gs lent any d).w.heap[b]? =X.w.heap[b]? :=fun f b h=>OZz hi G f b h
 have hbp:∀b base tip s,X.own b=some (s,0,[],base,tip)→∃base' tip',(X.back X' gs lent any d).own b=some (s,0,[],base',tip'):=fun b base tip s h=>by
  cases hs:gs.contains s with
  |true=>exact hbox b base tip s hs h
  |false=>exact⟨base,tip,(DAz hi G h hs (by simp)).1⟩
 cases h with
 |undef v=>exact .undef v
 |c sh v vs l hf hc=>exact .c sh v vs _ hf (Hcz hi hl G hk hc)
 |box blk base tip c elem fr l ho hb hfr hc=>
  have h1:=DAz (d:=d) (any:=any) (lent:=lent) hi G ho hk (by simp)
  exact .box blk base tip c elem fr _ h1.1 (h1.2.trans hb) hfr (Hcz hi hl G hk hc)
 |bp s o blk base tip ho=>
  obtain⟨base',tip',h1⟩:=hbp _ _ _ _ ho
  exact .bp s o blk base' tip' h1
 |ep s o q kd fl' es i f row blk off base tip c elem fr ho he hlen hb hfr hr=>
  simp only[SV.mapC,EFz]
  by_cases hc:(gs.contains s||(any&&lent.contains (s,o)))=true
  ·rw[if_pos hc];exact .undef _
  ·rw[if_neg hc]
   simp only[Bool.or_eq_true,not_or]at hc
   have hO:∀b q base tip,X.own b=some (s,o+1,q,base,tip)→(X.back X' gs lent any d).own b=some (s,o+1,q,base,tip)∧(X.back X' gs lent any d).w.heap[b]? =X.w.heap[b]? :=fun b q base tip ho=>DAz (d:=d) (any:=any) hi G ho (by simpa using hc.1) (by rintro⟨h2,_,h3⟩;exact hc.2 (by simpa[h2]using h3))
   exact .ep s o q kd fl' es i f row blk off base tip c elem fr (hO _ _ _ _ ho).1 he hlen ((hO _ _ _ _ ho).2.trans hb) hfr (hr.mono (hV fl') hO)
 |epv s o q fl' es i f row blk off c elem fr hv hb hr=>
  simp only[SV.mapC,EFz]
  by_cases hc:(gs.contains s||(any&&lent.contains (s,o)))=true
  ·rw[if_pos hc];exact .undef _
  ·rw[if_neg hc]
   simp only[Bool.or_eq_true,not_or]at hc
   exact .epv s o q fl' es i f row blk off c elem fr (hV _ _ hv).1 ((hV _ _ hv).2.trans hb) (hr.mono (hV fl') fun b q base tip ho=>DAz (d:=d) (any:=any) hi G ho (by simpa using hc.1) (by rintro⟨h2,_,h3⟩;exact hc.2 (by simpa[h2]using h3)))
 |sp fl' row f blk off c elem fr hv hb hr=>exact .sp fl' row f blk off c elem fr (hV _ _ hv).1 ((hV _ _ hv).2.trans hb) (hr.mono (hV fl'))
 |fn g caps cs hs hc=>
  refine .fn g caps cs hs fun i v s h1 h2=> ?_
  obtain⟨blk,base,tip,e,ho⟩:=hc i v s h1 h2
  obtain⟨base',tip',h3⟩:=hbp _ _ _ _ ho
  exact⟨blk,base',tip',e,h3⟩
theorem Prz {sh:Shape} {v:Value} {vs:List Value} (h:Flat sh v vs):sh≠ .box:=by cases h<;>simp
theorem Vpz (G:Goes (X.callee gs lent fl N) X') {v:Value} {sv:SV} (hr:CSz sv=true) (hb:sv.cells.all noBr=true) (ha:sv.cells.any CV.flag=true→any=true) {d':Nat} (h:SVRel X' 0 v sv):SVRel (X.back X' gs lent any (some d')) d' v (sv.reflag fl):=by
 cases sv with
 |c sh l=>
  cases h with
  |c _ _ vs _ hf hc=>exact .c sh v vs _ hf (Hgz G (fun b p u h=>Umz h) hb ha hc)
  |box=>simp[CSz]at hr
 |_=>simp[CSz]at hr
theorem L0z {c:CV} (h:c.isOw=true):(c.reflag fl).isOw=true:=by
 cases c<;>first|rfl|simp[CV.isOw]at h
theorem Upz {k j:Nat} {c:CV} (h:c.isOw=true) (hn:¬(any=true∧lent.contains (k,j)=true)):(COz gs lent any k j c).isOw=true:=by
 cases c with
 |ow f es rows=>
  simp only[COz]
  rw[if_neg (by simpa using hn)]
  rfl
 |_=>simp[CV.isOw]at h
theorem RHz (k j:Nat):COz gs lent any k j .dead= .dead:=rfl
theorem MWz {sv:SV} {p:Nat} (h:(C1z sv p).isOw=true):(C1z (sv.reflag fl) p).isOw=true:=by
 cases sv with
 |c sh l=>
  simp only[C1z,SV.reflag,List.getD_eq_getElem?_getD,List.getElem?_map]at h ⊢
  cases e:l[p]? with
  |none=>simp[e,CV.isOw]at h
  |some c=>simp[e]at h ⊢;exact L0z h
 |_=>simp[C1z,CV.isOw]at h
theorem Sfz {l:List CV} {p:Nat} (h:(l.getD p .dead).isOw=true):∃c,l[p]? =some c∧c.isOw=true:=by
 rw[List.getD_eq_getElem?_getD]at h
 cases e:l[p]? with
 |none=>simp[e,CV.isOw]at h
 |some c=>exact⟨c,rfl,by simpa[e]using h⟩
theorem Eaz {X:Ctx} {k:Nat} {v:Value} {l:List CV} (h:SVRel X k v (.c .box l)):∃(blk base tip:Nat) (c:Array Value) (elem:TypeId) (fr:Nat×Nat),v= .pointer (some ⟨blk,0,none⟩)∧X.own blk=some (k,0,[],base,tip)∧X.w.heap[blk]? =some (.cells c elem fr)∧free fr c.size∧CellsRel X k 0 c.toList l:=by
 cases h with
 |c _ _ _ _ hf _=>exact absurd rfl (Prz hf)
 |box blk base tip c elem fr l ho hb hfr hc=>exact⟨blk,base,tip,c,elem,fr,rfl,ho,hb,hfr,hc⟩
theorem S8z {vs:List Value} {σ:St} (hg:Good X vs σ NoE) {bs:List (List CV)} (hn:Ckz gs=true) (hbs:Bwz σ gs=some bs) (hl:lent.all (fun x=> !gs.contains x.1)=true)
    (hd:∀d',d=some d'→(∀b p q base tip,X.own b≠some (d',p,q,base,tip))) (hdg:∀d',d=some d'→gs.contains d'=false)
    {v:Value} {res:SV} {ms:List (List CV)} (hlen:ms.length=bs.length) (hms:ms.all (·.all noBr)=true) (hr:CSz res=true) (hrb:res.cells.all noBr=true) (ha:(res.cells.any CV.flag||ms.any (·.any CV.flag))=true→any=true)
    (G:Goes (X.callee gs lent fl N) X') (hg':Good X' (v::gvals vs gs) (res::ms.map (.c .box)) NoE):
    Good (X.back X' gs lent any d) vs (BPz gs (ms.map (·.map (CV.reflag fl))) (back gs lent any σ)) (fun a _=>d=some a)∧
    (∀d',d=some d'→SVRel (X.back X' gs lent any d) d' v (res.reflag fl)∧(∀b p q base tip,(X.back X' gs lent any d).own b=some (d',p+1,q,base,tip)→(C1z (res.reflag fl) p).isOw=true)∧(∀b q base tip,(X.back X' gs lent any d).own b≠some (d',0,q,base,tip)))∧
    (BPz gs (ms.map (·.map (CV.reflag fl))) (back gs lent any σ)).length=σ.length:=by
  have hi:=hg.inv
  obtain⟨hbl,hbg⟩:=DVz hbs
  have hbl':∀(g s:Nat),gs[g]? =some s→∃(b m:List CV),bs[g]? =some b∧ms[g]? =some m∧σ[s]? =some (SV.c .box b):=fun g s h=>by
    have hlt:g<gs.length:=by rw[List.getElem?_eq_some_iff]at h;exact h.1
    exact⟨bs[g]'(by omega),ms[g]'(by omega),List.getElem?_eq_getElem _,List.getElem?_eq_getElem _,hbg _ _ _ h (List.getElem?_eq_getElem _)⟩
 
  have hval:∀(g s:Nat),gs[g]? =some s→∃v:Value,vs[s]? =some v∧(gvals vs gs)[g]? =some v:=fun g s h=>by
    obtain⟨b,m,_,_,h3⟩:=hbl' g s h
    have hlt:s<σ.length:=by rw[List.getElem?_eq_some_iff]at h3;exact h3.1
    have hlt':s<vs.length:=by rw[hg.frame.1];exact hlt
    refine⟨vs[s],List.getElem?_eq_getElem hlt',?_⟩
    simp[gvals,h,List.getD_eq_getElem?_getD,List.getElem?_eq_getElem hlt']
  have hslot:∀(g s:Nat) (m:List CV) (v:Value),gs[g]? =some s→ms[g]? =some m→(gvals vs gs)[g]? =some v→SVRel X' (g+1) v (.c .box m):=fun g s m v h1 h2 h3=>
    hg'.frame.2 (g+1) v _ (by simpa using h3) (by simp[h2])
  have hbox:∀b base tip s,gs.contains s=true→X.own b=some (s,0,[],base,tip)→∃base' tip',(X.back X' gs lent any d).own b=some (s,0,[],base',tip'):=fun b base tip s hs ho=>by
    obtain⟨g,hg1⟩:=Fgz hs
    have hg2:=CVz hg1
    obtain⟨bb,m,h1,h2,h3⟩:=hbl' g s hg2
    obtain⟨u,h4,h5⟩:=hval g s hg2
    have h6:=hslot g s m u hg2 h2 h5
    have h7:=hg.frame.2 s u _ h4 h3
    obtain⟨blk,base1,tip1,c,elem,fr,e1,ho1,hb1,hfr1,hc1⟩:=Eaz h7
    obtain⟨blk2,base2,tip2,c2,elem2,fr2,e2,ho2,hb2,hfr2,hc2⟩:=Eaz h6
    rw[e1]at e2
    injection e2 with e2;injection e2 with e2;injection e2 with e2
    subst e2
    have:b=blk:=hi.one _ _ _ _ _ _ _ _ _ ho ho1
    subst this
    exact⟨base2,tip2,Jzz ho2 hg2⟩
  have hdd:∀d',d=some d'→gs.contains d'=false∧∀b p q base tip,X.own b≠some (d',p,q,base,tip):=fun d' h=>⟨hdg d' h,hd d' h⟩
  have hsize:(BPz gs (ms.map (·.map (CV.reflag fl))) (back gs lent any σ)).length=σ.length:=by rw[GTz];exact Arz _ _ _ _
  have hin:∀(g s:Nat) (m:List CV),gs[g]? =some s→ms[g]? =some m→(BPz gs (ms.map (·.map (CV.reflag fl))) (back gs lent any σ))[s]? =some (.c .box (m.map (CV.reflag fl))):=fun g s m h1 h2=>by
    obtain⟨bb,m',_,_,h3⟩:=hbl' g s h1
    have hlt:s<σ.length:=by rw[List.getElem?_eq_some_iff]at h3;exact h3.1
    exact JIz hn h1 (by simp[h2]) (by unfold back;rw[Arz];exact hlt)
  have hout:∀k,gs.contains k=false→(BPz gs (ms.map (·.map (CV.reflag fl))) (back gs lent any σ))[k]? =(σ[k]?).map fun x=>x.mapC (COz gs lent any k) (EFz gs lent any):=fun k h=>by
    rw[Ejz h];unfold back;rw[BQz];simp
  refine⟨⟨Uoz hi hg'.inv hn hl G hdd,⟨by rw[hsize];exact hg.frame.1,?_⟩,?_,?_⟩,?_,hsize⟩
  · intro k u sv hu hs
    cases hk:gs.contains k with
    |true=>
      obtain⟨g,hg1⟩:=Fgz hk
      have hg2:=CVz hg1
      obtain⟨bb,m,h1,h2,h3⟩:=hbl' g k hg2
      rw[hin g k m hg2 h2]at hs
      injection hs with hs;subst hs
      obtain⟨u',h4,h5⟩:=hval g k hg2
      rw[h4]at hu;injection hu with hu;subst hu
      have h6:=hslot g k m u' hg2 h2 h5
      cases h6 with
      |c _ _ _ _ hf _=>exact absurd rfl (Prz hf)
      |box blk base2 tip2 c2 elem2 fr2 _ ho2 hb2 hfr2 hc2=>
        refine .box blk base2 tip2 c2 elem2 fr2 _ (Jzz ho2 hg2) hb2 hfr2 (Hgz G (fun b p u h=>Jzz h hg2) ?_ ?_ hc2)
        · exact List.all_eq_true.1 hms m (List.mem_of_getElem? h2)
        · exact fun e=>ha (by rw[Bool.or_eq_true];exact .inr (List.any_eq_true.2 ⟨m,List.mem_of_getElem? h2,e⟩))
    |false=>
      rw[hout k hk]at hs
      obtain⟨x,h1,h2⟩:=AHz hs
      subst h2
      exact Vjz hi hl G hbox hk (hg.frame.2 k u x hu h1)
  · intro b s p q base tip h
    rcases Btz h with⟨p',u,d',h1,h2,h3⟩|⟨k,s1,p',u,h1,h2,h3⟩|⟨s1,p',u,h0,h1,h2,h3,h4⟩
    · injection h3 with h3 _
      subst h3
      exact .inl h2
    · injection h3 with h3 h4;injection h4 with h4 _
      subst h3;subst h4
      right
      obtain⟨bb,m,_,h5,h6⟩:=hbl' k s h2
      rw[Blz (hin k s m h2 h5)]
      have h7:=(hg'.tags.cell b (k+1) p u.1 u.2.1 u.2.2 h1).resolve_left id
      rw[Blz (sh:= .box) (l:=m) (by simp[h5])]at h7
      obtain⟨c,h8,h9⟩:=Sfz h7
      rw[List.getD_eq_getElem?_getD,List.getElem?_map,h8]
      exact L0z h9
    · injection h4 with h4 h5;injection h5 with h5 _
      subst h4;subst h5
      right
      have h6:=(hg.tags.cell b s p u.1 u.2.1 u.2.2 h1).resolve_left id
      have h7:ABz (BPz gs (ms.map (·.map (CV.reflag fl))) (back gs lent any σ)) s p=ABz (back gs lent any σ) s p:=by
        unfold ABz
        rw[List.getD_eq_getElem?_getD,List.getD_eq_getElem?_getD,Ejz h2]
      rw[h7]
      unfold back
      rw[Byz _ _ σ s p (RHz s p) h6]
      exact Upz h6 (fun⟨e1,e2⟩=>h3 ⟨e1,by simp,by simpa using e2⟩)
  · intro b s q base tip h
    rcases Btz h with⟨p',u,d',h1,h2,h3⟩|⟨k,s1,p',u,h1,h2,h3⟩|⟨s1,p',u,h0,h1,h2,h3,h4⟩
    · injection h3 with h3 h4;injection h4 with h4 _
      subst h3;subst h4
      obtain⟨l,h5⟩:=hg'.tags.box b 0 u.1 u.2.1 u.2.2 h1
      simp at h5
      subst h5
      simp[CSz]at hr
    · injection h3 with h3 h4
      subst h3
      obtain⟨bb,m,_,h5,h6⟩:=hbl' k s h2
      exact⟨_,hin k s m h2 h5⟩
    · injection h4 with h4 h5;injection h5 with h5 _
      subst h4;subst h5
      obtain⟨l,h6⟩:=hg.tags.box b s u.1 u.2.1 u.2.2 h1
      exact⟨_,by rw[hout s h2,h6];rfl⟩
  · intro d' hd'
    subst hd'
    have hres:=hg'.frame.2 0 v res rfl rfl
    refine⟨Vpz G hr hrb (fun e=>ha (by simp[e])) hres,?_,?_⟩
    · intro b p q base tip h
      rcases Btz h with⟨p',u,d'',h1,h2,h3⟩|⟨k,s1,p',u,h1,h2,h3⟩|⟨s1,p',u,h0,h1,h2,h3,h4⟩
      · injection h3 with h3 h4;injection h4 with h4 _
        subst h4
        have h5:=(hg'.tags.cell b 0 p u.1 u.2.1 u.2.2 h1).resolve_left id
        refine MWz ?_
        cases res with
        |c sh l=>exact h5
        |_=>simp[CSz]at hr
      · injection h3 with h3 _
        subst h3
        have:=(hdd _ rfl).1
        rw[Dhz h2]at this;simp at this
      · injection h4 with h4 h5
        subst h4
        exact absurd h1 ((hdd _ rfl).2 _ _ _ _ _)
    · intro b q base tip h
      rcases Btz h with⟨p',u,d'',h1,h2,h3⟩|⟨k,s1,p',u,h1,h2,h3⟩|⟨s1,p',u,h0,h1,h2,h3,h4⟩
      · injection h3 with h3 h4;injection h4 with h4 _
        subst h4
        obtain⟨l,h5⟩:=hg'.tags.box b 0 u.1 u.2.1 u.2.2 h1
        simp at h5
        subst h5
        simp[CSz]at hr
      · injection h3 with h3 _
        subst h3
        have:=(hdd _ rfl).1
        rw[Dhz h2]at this;simp at this
      · injection h4 with h4 h5
        subst h4
        exact absurd h1 ((hdd _ rfl).2 _ _ _ _ _)
end
end Go.Proofs.YtblelojdboefjaaGreatDoor.R
namespace Go.Proofs.YtblelojdboefjaaGreatDoor.R
open Go
theorem FBz (vs:List Value):∀{l:List CV} {X:Ctx} {σ σ':St} {E:Nat→Nat→Prop},Good X vs σ E→settle l σ=some σ'→∃X',Kept X X' vs σ σ' E
 |[],X,σ,σ',E,h,e=>by simp only[settle]at e;injection e with e;subst e;exact⟨X,.refl h⟩
 |c::l,X,σ,σ',E,h,e=>by
  cases c with
  |br s o q kd lo f es rows=>
   simp only[settle]at e
   split at e
   ·rename_i hc
    have k0:=EAz h hc
    obtain⟨X1,k1⟩:=FBz vs k0.good e
    exact⟨X1,k0.trans k1⟩
   ·exact FBz vs h e
  |_=>simp only[settle]at e;exact FBz vs h e
theorem Fxz (vs:List Value):∀{gs:List Nat} {X:Ctx} {σ σ':St} {E:Nat→Nat→Prop},Good X vs σ E→settles gs σ=some σ'→∃X',Kept X X' vs σ σ' E
 |[],X,σ,σ',E,h,e=>by simp only[settles]at e;injection e with e;subst e;exact⟨X,.refl h⟩
 |s::l,X,σ,σ',E,h,e=>by
  simp only[settles]at e
  obtain⟨σ1,h1,e⟩:=AAz e
  unfold GMz at h1
  obtain⟨b,h2,h1⟩:=AAz h1
  obtain⟨X1,k1⟩:=FBz vs h h1
  obtain⟨X2,k2⟩:=Fxz vs k1.good e
  exact⟨X2,k1.trans k2⟩
theorem OSVs.append {X:Ctx}:∀{vs vs':List Value} {xs xs':List SV},OSVs X vs xs→OSVs X vs' xs'→OSVs X (vs++vs') (xs++xs')
 |_,_,_,_,.nil,h=>h
 |_,_,_,_,.cons v x vs xs h t,h'=> .cons v x _ _ h (OSVs.append t h')
theorem Dez {X:Ctx}:∀{xs xs':List SV} {k:Nat} {l:List (Nat×Nat)} {f:Bool},Aaz k xs=some (xs',l,f)→xs'.length=xs.length
 |[],xs',k,l,f,e=>by simp only[Aaz]at e;injection e with e;injection e with e1 e;subst e1;rfl
 |x::xs,xs',k,l,f,e=>by
  unfold Aaz at e
  split at e
  ·rename_i e0;cases e0
  ·rename_i k0 cs l0 e0;injection e0 with e0 e0';subst e0;subst e0'
   obtain⟨⟨c1,l1,f1⟩,e1,e⟩:=AAz e
   obtain⟨⟨c2,l2,f2⟩,e2,e⟩:=AHz e
   injection e with e3 e;subst e3
   simp[Dez (X:=X) e2]
  ·rename_i k0 cs l0 e0;injection e0 with e0 e0';subst e0;subst e0'
   obtain⟨⟨c1,l1,f1⟩,e1,e⟩:=AAz e
   obtain⟨⟨c2,l2,f2⟩,e2,e⟩:=AHz e
   injection e with e3 e;subst e3
   simp[Dez (X:=X) e2]
  ·rename_i k0 s l0 e0;injection e0 with e0 e0';subst e0;subst e0'
   obtain⟨⟨c2,l2,f2⟩,e2,e⟩:=AHz e
   injection e with e3 e;subst e3
   simp[Dez (X:=X) e2]
  ·rename_i k0 g caps l0 e0;injection e0 with e0 e0';subst e0;subst e0'
   obtain⟨⟨c2,l2,f2⟩,e2,e⟩:=AHz e
   injection e with e3 e;subst e3
   simp[Dez (X:=X) e2]
  ·simp at e
theorem Uiz {X:Ctx} {gs:List Nat} {lent:List (Nat×Nat)} {fl:Bool} {N:Nat} (hn:Ckz gs=true) {g:FuncId} {caps:List Nat} {v:Value} (h:OSV X v (.fn g caps)) {k:Nat} (hk:∀i s,caps[i]? =some s→gs[k+i]? =some s):
  ∃cs:Array Value,v= .func (.func g) #[] cs∧OSVs (X.callee gs lent fl N) cs.toList (((List.range' k caps.length).map fun j=>SV.bp j 0).map (Biz N)):=by
 have h0:=h 0
 cases h0 with
 |fn _ _ cs hs hc=>
  refine⟨cs,rfl,?_⟩
  rw[List.map_map]
  have hl:cs.toList.length=caps.length:=by simpa using hs
  have hc':∀(i:Nat) (v:Value) (s:Nat),cs.toList[i]? =some v→caps[i]? =some s→∃(blk base tip:Nat),v=Value.pointer (some ⟨blk,0,none⟩)∧X.own blk=some (s,0,[],base,tip):=fun i v s h1 h2=>hc i v s (by simpa using h1) h2
  clear hs hc h
  generalize cs.toList=l at hl hc'
  clear cs
  induction l generalizing caps k with
  |nil=>
   have:caps=[]:=List.length_eq_zero_iff.1 (by simpa using hl.symm)
   subst this
   exact .nil
  |cons v l ih=>
   cases caps with
   |nil=>simp at hl
   |cons s caps=>
    simp only[List.length_cons,List.range'_succ,List.map_cons]
    refine .cons v _ l _ (fun j=> ?_) (ih (k:=k+1) (fun i s h=> ?_) (by simpa using hl) (fun i v s h1 h2=>hc' (i+1) v s (by simpa using h1) (by simpa using h2)))
    ·obtain⟨blk,base,tip,e,ho⟩:=hc' 0 v s rfl rfl
     subst e
     exact .bp (N+k) 0 blk base tip (CMz ho (ELz hn (hk 0 s rfl)))
    ·have:=hk (i+1) s (by simpa using h)
     rw[←this];congr 1;omega
theorem MTz {P:Program} {call:CallF} (hcall:Bvz P call) {X:Ctx} {vs:List Value} {σ σ':St} (hg:Good X vs σ NoE) {gs caps:List Nat} (hn:Ckz gs=true) {g:FuncId} {sv:SV}
    {argv:List Value} {xs:List SV} {q:List SV×List (Nat×Nat)×Bool} (hx:OSVs X argv xs) (hq:Aaz 0 xs=some q) (hgs:xs.flatMap Ajz++caps=gs) {fv:Value} (hf:OSV X fv (.fn g caps))
    {d:Option Nat} (hd:∀d',d=some d'→(∀b p q base tip,X.own b≠some (d',p,q,base,tip))) (hdg:∀d',d=some d'→gs.contains d'=false) (h:FWz call σ g gs caps q=some (σ',sv)):
    ∃cs:Array Value,fv= .func (.func g) #[] cs∧Lands P g (argv.toArray++cs) X.w fun v w'=>∃X',X'.w=w'∧Goes X X'∧Good X' vs σ' (fun a _=>d=some a)∧σ'.length=σ.length∧
      (gs=[]→(∀r,call g q.1 []=some r→(r.res.cells.any CV.flag&& !q.2.1.isEmpty)=false)→Mono X X'∧∀b t,X'.own b=some t→X.own b=some t∨d=some t.1)∧
      ∀d',d=some d'→SVRel X' d' v sv∧(∀b p q base tip,X'.own b=some (d',p+1,q,base,tip)→(C1z sv p).isOw=true)∧(∀b q base tip,X'.own b≠some (d',0,q,base,tip)):=by
  unfold FWz at h
  obtain⟨bs,hbs,h⟩:=AAz h
  split at h
  case isFalse=>simp at h
  rename_i hc1
  obtain⟨r,hr,h⟩:=AAz h
  split at h
  case isFalse=>simp at h
  rename_i hc2
  obtain⟨xs',lent,f⟩:=q
  simp only at hr h hc1
  injection h with h;injection h with h1 h2
  obtain⟨N,hN,H⟩:=hcall _ _ _ _ hr
  have hlen:=Dez (X:=X) hq
  have hgl:gs.length=(xs.flatMap Ajz).length+caps.length:=by rw[←hgs];simp
 
  let fl:Bool:=f||bs.any (·.any CV.flag)
  let any:Bool:=r.res.cells.any CV.flag||r.boxes.any (·.any CV.flag)
  have ha:OSVs (X.callee gs lent fl N) argv (xs'.map (Biz N)):=Ddz hn hx hq (fun i s hi=>by
    rw[←hgs,Nat.zero_add,List.getElem?_append_left (by rw[List.getElem?_eq_some_iff]at hi;exact hi.1)]
    exact hi) (fun x hx=>hx) (fun e=>by simp[fl,e])
  obtain⟨cs,e1,hcs⟩:=Uiz (lent:=lent) (fl:=fl) (N:=N) hn hf (k:=gs.length - caps.length) (fun i s hi=>by
    have h0:=hgl
    rw[←hgs]at h0 ⊢
    rw[List.getElem?_append_right (by omega)]
    rw[←hi];congr 1;omega)
  refine⟨cs,e1,?_⟩
  have hall:=ha.append hcs
  rw[←List.map_append]at hall
  have hgood:=PKz (fl:=fl) (N:=N) hg hn hbs hc1.1 hc1.2 (by intro e;simp only[fl,e,Bool.or_true]) hall (by rw[List.length_map];exact hN)
  rw[List.length_map]at hgood
  have hL:=H (X.callee gs lent fl N) (argv++cs.toList) (gvals vs gs) (by rw[hall.length,List.length_map]) hgood
  have harr:(argv++cs.toList).toArray=argv.toArray++cs:=by simp
  rw[harr]at hL
  have hw:(X.callee gs lent fl N).w=X.w:=rfl
  rw[hw]at hL
  have hfin:∀v w',(∃X',X'.w=w'∧Goes (X.callee gs lent fl N) X'∧Good X' (v::gvals vs gs) (r.res::r.boxes.map (.c .box)) NoE)→∃X',X'.w=w'∧Goes X X'∧Good X' vs σ' (fun a _=>d=some a)∧σ'.length=σ.length∧
      (gs=[]→(∀r,call g xs' []=some r→(r.res.cells.any CV.flag&& !lent.isEmpty)=false)→Mono X X'∧∀b t,X'.own b=some t→X.own b=some t∨d=some t.1)∧
      ∀d',d=some d'→SVRel X' d' v sv∧(∀b p q base tip,X'.own b=some (d',p+1,q,base,tip)→(C1z sv p).isOw=true)∧(∀b q base tip,X'.own b≠some (d',0,q,base,tip)):=by
    rintro v w' ⟨X',e2,G,hg'⟩
    have hb:=S8z (fl:=fl) (any:=any) (d:=d) hg hn hbs hc1.2 hd hdg hc2.1 hc2.2.2.2 hc2.2.1 hc2.2.2.1 (fun e=>e) G hg'
    subst h1;subst h2
    refine⟨X.back X' gs lent any d,e2,S9z hg.inv G,hb.1,hb.2.2,?_,hb.2.1⟩
    intro hgs0 hfl
    have hbs0:bs=[]:=List.length_eq_zero_iff.1 (by rw[(DVz hbs).1,hgs0];rfl)
    have hcp0:caps=[]:=by
      have:caps.length=0:=by
        have h0:=hgl
        rw[hgs0,List.length_nil]at h0
        omega
      exact List.length_eq_zero_iff.1 this
    have hbx0:r.boxes=[]:=List.length_eq_zero_iff.1 (by rw[hc2.1,hbs0];rfl)
    have hany:any=true→lent=[]:=fun ha=>by
      have h1:(r.res.cells.any CV.flag&& !lent.isEmpty)=false:=hfl r (by rw[hbs0,hcp0]at hr;simpa using hr)
      have h2:r.res.cells.any CV.flag=true:=by simpa only[any,hbx0,List.any_nil,Bool.or_false]using ha
      rw[h2]at h1
      simpa using h1
    refine⟨⟨fun f b hV=>OZz hg.inv G f b hV,fun b t ho=> ?_⟩,fun b t ho=> ?_⟩
    · obtain⟨s,p,u⟩:=t
      exact DAz hg.inv G ho (by rw[hgs0];rfl) (fun⟨h1,_,h2⟩=>by rw[hany h1]at h2;simp at h2)
    · rcases Btz ho with⟨p',u,d',h1,h2,h3⟩|⟨k,s1,p',u,h1,h2,h3⟩|⟨s1,p',u,h0,h1,h2,h3,h4⟩
      · exact .inr (by rw[h2,h3])
      · rw[hgs0]at h2;simp at h2
      · exact .inl (by rw[h4];exact h1)
  unfold Lands at hL ⊢
  generalize(callFunc g (argv.toArray++cs)).run P X.w=R at hL ⊢
  cases R with
  |ok n w'=>
    cases n with
    |value v=>exact hfin v w' hL
    |enter f as=>
      refine Calls.mono hL ?_
      intro e w'' he
      cases e with
      |returned v=>exact hfin v w'' he
      |_=>exact he
    |row row as=>exact Rows.mono hL fun v w'' he=>hfin v w'' he
    |_=>exact hL
  |_=>exact hL
end Go.Proofs.YtblelojdboefjaaGreatDoor.R
namespace Go.Proofs.YtblelojdboefjaaGreatDoor.R
open Go
theorem I7z {a:Act} {gv:List Value} {d:Nat} {v:Value} (h:d<a.tmps.size):All (a.put (some d) v) gv=(All a gv).set d v:=by
 unfold All Act.put
 simp only[Array.toList_setIfInBounds]
 rw[List.set_append_left _ _ (by simpa using h)]
theorem Eyz (a:Act) (d:Option Tmp) (v:Value):(a.put d v).tmps.size=a.tmps.size:=by
 cases d<;>simp[Act.put]
theorem Dtz (a:Act) (d:Option Tmp) (v:Value):(a.put d v).defers=a.defers:=by
 cases d<;>rfl
theorem Bmz (g:Nat→Nat→CV→CV) (e:EpMap) (σ:St) (d:Nat) (sh:Shape):(∃l,(Afz g e 0 σ)[d]? =some (.c sh l))↔∃l,σ[d]? =some (.c sh l):=by
 rw[BQz]
 cases σ[d]? with
 |none=>simp
 |some x=>
  cases x with
  |c sh' l=>simp[SV.mapC]
  |ep a b q _ _ _ _ _ _=>simp only[Option.map_some,SV.mapC];cases e a b q<;>simp
  |_=>simp[SV.mapC]
theorem Huz {kp:Option Nat} {s' o':Nat} {c c':CV} {σ σ':St} (h:persist kp s' o' c σ=some (σ',c')) (d:Nat) (sh:Shape):(∃l,σ'[d]? =some (.c sh l))↔∃l,σ[d]? =some (.c sh l):=by
 unfold persist at h
 split at h
 ·injection h with h;injection h with h;subst h;exact Iff.rfl
 ·injection h with h;injection h with h;subst h;exact Iff.rfl
 ·split at h
  ·split at h
   ·injection h with h;injection h with h;subst h;exact Iff.rfl
   ·simp at h
  ·split at h
   ·split at h
    ·injection h with h;injection h with h;subst h;exact Bmz _ _ _ _ _
    ·split at h
     ·injection h with h;injection h with h;subst h;exact Bmz _ _ _ _ _
     ·injection h with h;injection h with h;subst h;exact Bmz _ _ _ _ _
   ·simp at h
 ·simp at h
theorem F3z {kp:Option Nat}:∀{l:List CV} {s' j:Nat} {σ σ':St} {l':List CV},ATz kp s' j l σ=some (σ',l')→∀(d:Nat) (sh:Shape),(∃m,σ'[d]? =some (.c sh m))↔∃m,σ[d]? =some (.c sh m)
 |[],s',j,σ,σ',l',h,d,sh=>by simp only[ATz]at h;injection h with h;injection h with h;subst h;exact Iff.rfl
 |c::l,s',j,σ,σ',l',h,d,sh=>by
  simp only[ATz]at h
  obtain⟨r,h1,h⟩:=AAz h
  obtain⟨q,h2,h⟩:=AAz h
  split at h
  ·injection h with h;injection h with h h3;subst h
   exact(F3z h2 d sh).trans (Huz h1 d sh)
  ·simp at h
structure Eff (X X':Ctx) (vs:List Value) (σ':St) (d:Nat) (v:Value) (sv:SV):Prop where
 goes:Goes X X'
 good:Good X' (vs.set d v) (σ'.set d sv) NoE
def Bare (X:Ctx) (σ:St) (d:Nat):Prop:=(∀p,Free X d p)∧(∀b q base tip,X.own b≠some (d,0,q,base,tip))∧(∀p,(ABz σ d p).isOw=false)∧(∀l,σ[d]? ≠some (.c .box l))
theorem Bare.no {X:Ctx} {σ:St} {d:Nat} (h:Bare X σ d):∀b p q base tip,X.own b≠some (d,p,q,base,tip):=fun b p q base tip=>by
 cases p with
 |zero=>exact h.2.1 b q base tip
 |succ p=>exact h.1 p b q base tip
theorem Cvz {X X':Ctx} {vs:List Value} {σ:St} {d:Nat} {v:Value} {sv:SV} (hg:Good X vs σ NoE) (hb:Bare X σ d) (hd:d<σ.length) (h:PureRes X X' d v sv):Eff X X' vs σ d v sv:=by
 refine⟨h.goes,DIz hg (fun _ _ e=>e.elim) h.mono h.inv hd ?_ hb.2.1 h.rel ?_ ?_⟩
 ·intro b t hbt
  exact h.new b t hbt
 ·intro b p q base tip hbt
  exact(h.tag b p q base tip hbt).resolve_left (hb.1 p b q base tip)
 ·intro b q base tip hbt
  exact(h.tagb b q base tip hbt).resolve_left (hb.2.1 b q base tip)
theorem JJz {kp:Option Nat} {X:Ctx} {vs:List Value} {σ σ':St} {d:Nat} {vals:List Value} {cs l':List CV} (hg:Good X vs σ NoE) (hb:Bare X σ d) (hc:VCells X vals cs) (h:ATz kp d 0 cs σ=some (σ',l')):
  ∃X',Goes X X'∧X'.w=X.w∧Good X' vs σ' (fun a _=>a=d)∧CellsRel X' d 0 vals l'∧(∀p,(l'.getD p .dead).isOw=false→Free X' d p)∧(∀b q base tip,X'.own b≠some (d,0,q,base,tip))∧(∀l,σ'[d]? ≠some (.c .box l))∧σ'.length=σ.length:=by
 obtain⟨X',p⟩:=GWz vs kp d hg hc.ocells (fun p _ _=>⟨hb.1 p,hb.2.2.1 p⟩) h
 have hbx:∀l,σ'[d]? ≠some (.c .box l):=fun l e=>by
  obtain⟨m,hm⟩:=(F3z h d .box).1 ⟨l,e⟩
  exact hb.2.2.2 m hm
 refine⟨X',p.goes,p.w,p.good.weak ?_,p.cells,?_,?_,hbx,p.size⟩
 ·rintro a b (h1|⟨h1,_⟩)
  ·exact h1.elim
  ·exact h1
 ·intro q hq
  by_cases hlt:q<l'.length
  ·have e1:l'[q]? =some (l'[q]):=List.getElem?_eq_getElem hlt
   have:=p.tag q _ e1 (by simpa[List.getD_eq_getElem?_getD,e1]using hq)
   simpa using this
  ·exact p.free d q (by have:=p.len;omega) (hb.1 q)
 ·intro b q base tip e
  obtain⟨l,hl⟩:=p.good.tags.box _ _ _ _ _ e
  exact hbx l hl
theorem Kxz {kp:Option Nat} {X:Ctx} {vs:List Value} {σ σ':St} {d:Nat} {v:Value} {sh:Shape} {cs l':List CV} (hg:Good X vs σ NoE) (hb:Bare X σ d) (hd:d<σ.length) (hx:OSV X v (.c sh cs)) (hsh:sh≠ .box) (h:ATz kp d 0 cs σ=some (σ',l')):
  ∃X',X'.w=X.w∧Eff X X' vs σ' d v (.c sh l'):=by
 obtain⟨vals,hf,hc⟩:=CGz hx hsh
 obtain⟨X',G,hw,g,hcr,ht,hnb,hbx,hs⟩:=JJz hg hb hc h
 refine⟨X',hw,G,DIz g (fun _ _ e=>e) (.refl X') g.inv (by omega) (fun b t h=> .inl h) hnb (.c sh v vals l' hf hcr) ?_ ?_⟩
 ·intro b p q base tip e
  cases hh:(C1z (.c sh l') p).isOw with
  |true=>rfl
  |false=>exact absurd e (ht p hh b q base tip)
 ·intro b q base tip e
  exact absurd e (hnb b q base tip)
theorem Pyz {X0 X:Ctx} {w':World} {vs:List Value} {σ:St} {d:Nat} {vals:List Value} {l:List CV} {elem:TypeId} (hg:Good X vs σ (fun a _=>a=d)) (hG:Goes X0 X) (hd:d<σ.length) (hcr:CellsRel X d 0 vals l)
  (ht:∀p,(l.getD p .dead).isOw=false→Free X d p) (hnb:∀b q base tip,X.own b≠some (d,0,q,base,tip)) (hp:Pushes X.w w' (.cells vals.toArray elem (0,0))):
  Eff X0 (X.made w' (d,0,[],0,0)) vs σ d (.pointer (some ⟨X.w.heap.size,0,none⟩)) (.c .box l):=by
 have hm:=FMz (t:=(d,0,[],0,0)) hg.inv hp
 refine⟨hG.trans (FNz hp),DIz hg (fun _ _ e=>e) hm (HYz hg.inv hp fun b base tip=>hnb b [] base tip) hd ?_ hnb ?_ ?_ ?_⟩
 ·intro b t h
  exact(ENz h).imp id fun e=>by rw[e]
 ·exact .box X.w.heap.size 0 0 vals.toArray elem (0,0) l (by simp[Ctx.made]) hp.new (Kmz _) (by simpa using hcr.mono hm)
 ·intro b p q base tip e
  rcases ENz e with e|e
  ·cases hh:(C1z (.c .box l) p).isOw with
   |true=>rfl
   |false=>exact absurd e (ht p hh b q base tip)
  ·injection e with _ e;injection e with e _;omega
 ·intro b q base tip e
  exact⟨l,rfl⟩
theorem MRz {P:Program} {T:Tys} (hT:TOk P T) {X:Ctx} {vs:List Value} {σ:St} {d:Nat} (hg:Good X vs σ NoE) (hb:Bare X σ d) (hd:d<σ.length) {t:TypeId} {z:List PV} (h:T.zr t=some z):
  ∃v X',(Instr.alloc t true (.tuple #[])).run P X.w= .ok v X'.w∧Eff X X' vs σ d v (.c .box (z.map (PV.cv false))):=by
 obtain⟨v,h1,h2,h3⟩:=Exz (P:=P) hT (w:=X.w) h
 have hz:=HGz (X:=X) (f:=false) h3
 let w':World:={X.w with heap:=X.w.heap.push (.cells v.cells t (0,0))}
 have hp:Pushes X.w w' (.cells (z.map PV.val).toArray t (0,0)):=⟨by rw[←h2],rfl,rfl,rfl⟩
 have he:=Pyz (vals:=z.map PV.val) (l:=z.map (PV.cv false)) (hg.weak (E':=fun a _=>a=d) fun _ _ e=>e.elim) (.refl X) hd hz.cells (fun p _=>hb.1 p) hb.2.1 hp
 refine⟨_,_,?_,he⟩
 simp only[Instr.alloc,Sem.run_bind,h1,Result.andThen_ok,newVar,newRow]
 rfl
theorem Q4z {kp:Option Nat} {P:Program} {X:Ctx} {vs:List Value} {σ σ':St} {d:Nat} (hg:Good X vs σ NoE) (hb:Bare X σ d) (hd:d<σ.length) {t:TypeId} {v:Value} {x:SV} {cs l':List CV} (hx:OSV X v x) (hc:cells? x=some cs) (h:ATz kp d 0 cs σ=some (σ',l')):
  ∃u X',(Instr.box t v).run P X.w= .ok u X'.w∧Eff X X' vs σ' d u (.c .box l'):=by
 obtain⟨hv,_⟩:=D4z hx hc
 obtain⟨X1,G,hw,g,hcr,ht,hnb,hbx,hs⟩:=JJz hg hb hv h
 let w':World:={X.w with heap:=X.w.heap.push (.cells v.cells t (0,0))}
 have hp:Pushes X1.w w' (.cells v.cells.toList.toArray t (0,0)):=⟨by rw[hw],by rw[hw],by rw[hw],by rw[hw]⟩
 have he:=Pyz g G (by omega) hcr ht hnb hp
 refine⟨_,_,?_,he⟩
 simp only[Instr.box,Sem.run_bind,newVar,newRow]
 rw[hw]
 rfl
end Go.Proofs.YtblelojdboefjaaGreatDoor.R
namespace Go.Proofs.YtblelojdboefjaaGreatDoor.R
open Go
structure Wrote (w w':World) (b:Nat) (c':Array Value) (elem:TypeId) (fr:Nat×Nat):Prop where
 at_:w'.heap[b]? =some (.cells c' elem fr)
 else_:∀k,k≠b→w'.heap[k]? =w.heap[k]?
 size:w'.heap.size=w.heap.size
 os:w'.os=w.os
 tape:w'.tape=w.tape
 output:w'.output=w.output
theorem P9z {w:World} {b o:Nat} {c:Array Value} {elem:TypeId} {fr:Nat×Nat} (h:w.heap[b]? =some (.cells c elem fr)) (v:Value):Wrote w (w.setCell ⟨b,o,none⟩ v) b (c.setIfInBounds o v) elem fr where
 at_:=by
  have hlt:b<w.heap.size:=(Array.getElem?_eq_some_iff.1 h).1
  have hv:w.heap[b]= .cells c elem fr:=(Array.getElem?_eq_some_iff.1 h).2
  unfold World.setCell
  rw[Array.getElem?_eq_getElem (by simpa using hlt),Array.getElem_modify]
  simp[hv]
 else_:=fun k hk=>by
  unfold World.setCell
  simp only[Array.getElem?_modify]
  rw[if_neg (Ne.symm hk)]
 size:=by simp[World.setCell]
 os:=rfl
 tape:=rfl
 output:=rfl
theorem Wrote.trans {w w' w'':World} {b:Nat} {c c':Array Value} {elem elem':TypeId} {fr fr':Nat×Nat} (h:Wrote w w' b c elem fr) (h':Wrote w' w'' b c' elem' fr'):Wrote w w'' b c' elem' fr':=
 ⟨h'.at_,fun k hk=>(h'.else_ k hk).trans (h.else_ k hk),h'.size.trans h.size,h'.os.trans h.os,h'.tape.trans h.tape,h'.output.trans h.output⟩
theorem Glz (b:Nat) {elem:TypeId} {fr:Nat×Nat}:∀(vs:List Value) (o:Nat) {w:World} {c:Array Value},w.heap[b]? =some (.cells c elem fr)→o+vs.length≤c.size→
  ∃c',Wrote w (w.setCells b o vs) b c' elem fr∧c'.toList=c.toList.take o++vs++c.toList.drop (o+vs.length)
 |[],o,w,c,h,hl=>⟨c,⟨h,fun _ _=>rfl,rfl,rfl,rfl,rfl⟩,by simp⟩
 |v::vs,o,w,c,h,hl=>by
  have h1:=P9z (o:=o) h v
  simp at hl
  obtain⟨c',h2,h3⟩:=Glz b vs (o+1) h1.at_ (by simp;omega)
  refine⟨c',h1.trans h2,?_⟩
  rw[h3]
  simp only[Array.toList_setIfInBounds,List.length_cons]
  rw[IAz v c.toList o (by simp;omega),Iiz v c.toList o _ (by omega)]
  simp
  congr 1;omega
theorem IJz {P:Program} {w:World} {b o:Nat} {c:Array Value} {elem:TypeId} {fr:Nat×Nat} (h:w.heap[b]? =some (.cells c elem fr)) (hfr:free fr c.size) {vs:List Value} (hl:o+vs.length≤c.size) (h1:∀v∈vs,v.oneCell'=true):
  ∃w' c',(storeCells ⟨b,o,none⟩ vs).run P w= .ok () w'∧Wrote w w' b c' elem fr∧c'.toList=c.toList.take o++vs++c.toList.drop (o+vs.length):=by
 obtain⟨c',h2,h3⟩:=Glz b vs o h hl
 refine⟨_,c',run_storeCells_cells b o vs 0 w ?_ ?_ h1,h2,h3⟩
 ·intro j hj
  rw[CWz h]
  rw[Array.getElem?_eq_getElem (by omega)]
  rfl
 ·intro j hj
  have:=hfr (o+0+j) (by omega)
  simp only[World.frozen?,h]
  simpa using this
def Ctx.turned (X:Ctx) (w':World):Ctx:={X with w:=w'}
theorem Gnz {X:Ctx} {w':World} {b:Nat} {c:Array Value} {elem:TypeId} {fr:Nat×Nat} (h:Wrote X.w w' b c elem fr) {t:Own} (ho:X.own b=some t):Goes X (X.turned w')where
 os:=h.os
 tape:=h.tape
 output:=h.output
 size:=by show X.w.heap.size≤w'.heap.size;rw[h.size];exact Nat.le_refl _
 keep:=fun k hk hn=>h.else_ k (fun e=>by subst e;rw[ho]at hn;simp at hn)
 va:=rfl
 vs:=fun _ h=>h
 vs':=fun _ h=> .inl h
 own':=fun _ h=> .inl h
theorem Fbz {X:Ctx} (hi:Inv X) {w':World} (hs:w'.heap.size=X.w.heap.size):Inv (X.turned w')where
 own:=fun b t h=>⟨by show b<w'.heap.size;rw[hs];exact(hi.own b t h).1,(hi.own b t h).2⟩
 one:=hi.one
 vs:=fun b h=>by show b<w'.heap.size;rw[hs];exact hi.vs b h
 va:=fun b h=>by show b<w'.heap.size;rw[hs];exact hi.va b h
theorem EJz {X:Ctx} (hi:Inv X) {w':World} {b:Nat} {c:Array Value} {elem:TypeId} {fr:Nat×Nat} (h:Wrote X.w w' b c elem fr) {t:Own} (ho:X.own b=some t) (f:Bool) (k:Nat) (hk:X.V f k):(X.turned w').V f k∧(X.turned w').w.heap[k]? =X.w.heap[k]? :=
 ⟨hk,h.else_ k (fun e=>by subst e;rw[(LBz hi hk).1]at ho;simp at ho)⟩
theorem Opz {X:Ctx} (hi:Inv X) {w':World} {b s base0 tip0:Nat} {c:Array Value} {elem:TypeId} {fr:Nat×Nat} (h:Wrote X.w w' b c elem fr) (ho:X.own b=some (s,0,[],base0,tip0)) {k j:Nat} {v:Value} {cv:CV} (hc:CVRel X k j v cv):CVRel (X.turned w') k j v cv:=by
 have hV:=fun f k=>EJz hi h ho f k
 have hb:∀blk s' p q base tip,X.own blk=some (s',p+1,q,base,tip)→w'.heap[blk]? =X.w.heap[blk]? :=fun blk s' p q base tip e=>h.else_ blk (fun e1=>by subst e1;rw[ho]at e;injection e with e;injection e with _ e;injection e with e _;omega)
 cases hc with
 |sh f p v h=>exact .sh f p v (h.mono (hV f))
 |ow0 f es a=>exact .ow0 f es a
 |ow f es rows v blk off cap c elem fr h=>exact .ow f es rows v blk off cap c elem fr ⟨h.val,h.le,h.own,(hb _ _ _ _ _ _ h.own).trans h.cells,h.fits,h.loose,h.reads.mono (hV f) fun b q base tip ho=>⟨ho,hb _ _ _ _ _ _ ho⟩⟩
 |br0 s o q kd lo f es a=>exact .br0 s o q kd lo f es a
 |br s o q kd lo f es rows v blk base tip cap c elem fr h=>exact .br s o q kd lo f es rows v blk base tip cap c elem fr ⟨h.val,h.le,h.own,(hb _ _ _ _ _ _ h.own).trans h.cells,h.fits,h.loose,h.tipLe,h.tip1,h.lo0,h.reads.mono (hV f) fun b q base tip ho=>⟨ho,hb _ _ _ _ _ _ ho⟩⟩
 |brv s o q lo f es rows v h=>exact .brv s o q lo f es rows v (h.mono (hV f) fun b q base tip ho=>⟨ho,hb _ _ _ _ _ _ ho⟩)
 |dead v=>exact .dead v
theorem Ecz {X:Ctx} (hi:Inv X) {w':World} {b s base0 tip0:Nat} {c:Array Value} {elem:TypeId} {fr:Nat×Nat} (h:Wrote X.w w' b c elem fr) (ho:X.own b=some (s,0,[],base0,tip0)) {k:Nat}:∀{j:Nat} {vs:List Value} {l:List CV},CellsRel X k j vs l→CellsRel (X.turned w') k j vs l
 |_,_,_,.nil j=> .nil j
 |_,_,_,.cons j v cv vs l hc t=> .cons j v cv vs l (Opz hi h ho hc) (Ecz hi h ho t)
theorem RUz {X:Ctx} (hi:Inv X) {w':World} {b s base0 tip0:Nat} {c:Array Value} {elem:TypeId} {fr:Nat×Nat} (h:Wrote X.w w' b c elem fr) (ho:X.own b=some (s,0,[],base0,tip0)) {k:Nat} (hk:k≠s) {v:Value} {sv:SV} (hs:SVRel X k v sv):SVRel (X.turned w') k v sv:=by
 have hV:=fun f k=>EJz hi h ho f k
 have hb:∀blk s' p q base tip,X.own blk=some (s',p+1,q,base,tip)→w'.heap[blk]? =X.w.heap[blk]? :=fun blk s' p q base tip e=>h.else_ blk (fun e1=>by subst e1;rw[ho]at e;injection e with e;injection e with _ e;injection e with e _;omega)
 cases hs with
 |undef v=>exact .undef v
 |c sh v vs l hf hc=>exact .c sh v vs l hf (Ecz hi h ho hc)
 |box blk base tip c elem fr l ho' hbk hfr hc=>
  refine .box blk base tip c elem fr l ho' ((h.else_ blk fun e=> ?_).trans hbk) hfr (Ecz hi h ho hc)
  subst e
  rw[ho]at ho';injection ho' with e;injection e with e _
  exact hk e.symm
 |bp s o blk base tip ho'=>exact .bp s o blk base tip ho'
 |ep s o q kd fl es i f row blk off base tip c elem fr ho' he hl hbk hfr hr=>exact .ep s o q kd fl es i f row blk off base tip c elem fr ho' he hl ((hb _ _ _ _ _ _ ho').trans hbk) hfr (hr.mono (hV fl) fun b q base tip ho=>⟨ho,hb _ _ _ _ _ _ ho⟩)
 |epv s o q fl es i f row blk off c elem fr hv hbk hr=>exact .epv s o q fl es i f row blk off c elem fr (hV _ _ hv).1 ((hV _ _ hv).2.trans hbk) (hr.mono (hV fl) fun b q base tip ho=>⟨ho,hb _ _ _ _ _ _ ho⟩)
 |sp fl row f blk off c elem fr hv hbk hr=>exact .sp fl row f blk off c elem fr (hV _ _ hv).1 ((hV _ _ hv).2.trans hbk) (hr.mono (hV fl))
 |fn g caps cs hs hc=>exact .fn g caps cs hs hc
theorem CellsRel.length {X:Ctx} {k:Nat}:∀{j:Nat} {vs:List Value} {l:List CV},CellsRel X k j vs l→vs.length=l.length
 |_,_,_,.nil j=>rfl
 |_,_,_,.cons j v cv vs l h t=>by simp[CellsRel.length t]
theorem CellsRel.take {X:Ctx} {k:Nat}:∀{j:Nat} {vs:List Value} {l:List CV} (n:Nat),CellsRel X k j vs l→CellsRel X k j (vs.take n) (l.take n)
 |j,_,_,0,h=>by simpa using CellsRel.nil j
 |_,_,_,n+1,.nil j=>by simpa using CellsRel.nil j
 |_,_,_,n+1,.cons j v cv vs l h t=>by simpa using CellsRel.cons j v cv _ _ h (CellsRel.take n t)
theorem CellsRel.drop {X:Ctx} {k:Nat}:∀{j:Nat} {vs:List Value} {l:List CV} (n:Nat),CellsRel X k j vs l→CellsRel X k (j+n) (vs.drop n) (l.drop n)
 |j,_,_,0,h=>by simpa using h
 |_,_,_,n+1,.nil j=>by simpa using CellsRel.nil (j+(n+1))
 |_,_,_,n+1,.cons j v cv vs l h t=>by
  have:=CellsRel.drop n t
  rw[show j+1+n=j+(n+1)from by omega]at this
  simpa using this
theorem CellsRel.append {X:Ctx} {k:Nat}:∀{j:Nat} {vs vs':List Value} {l l':List CV},CellsRel X k j vs l→CellsRel X k (j+l.length) vs' l'→CellsRel X k j (vs++vs') (l++l')
 |_,_,_,_,_,.nil j,h=>by simpa using h
 |_,_,_,_,_,.cons j v cv vs l h t,h'=> .cons j v cv _ _ h (CellsRel.append t (by simpa[Nat.add_assoc,Nat.add_comm 1]using h'))
theorem GVz {kp:Option Nat} {σ σ':St} {s' j:Nat} {c c':CV} (h1:persist kp s' j c σ=some (σ',c')):c'≠ .dead:=by
 unfold persist at h1
 split at h1
 ·injection h1 with h1;injection h1 with _ h1;subst h1;simp
 ·injection h1 with h1;injection h1 with _ h1;subst h1;simp
 ·split at h1
  ·split at h1
   ·injection h1 with h1;injection h1 with _ h1;subst h1;simp
   ·simp at h1
  ·split at h1
   ·split at h1
    ·injection h1 with h1;injection h1 with _ h1;subst h1;simp
    ·split at h1
     ·injection h1 with h1;injection h1 with _ h1;subst h1;simp
     ·injection h1 with h1;injection h1 with _ h1;subst h1;simp
   ·simp at h1
 ·simp at h1
theorem S3z {kp:Option Nat} {σ:St} {s' j:Nat} {l l':List CV} {σ':St} (h:ATz kp s' j l σ=some (σ',l')):∀c∈l',c≠ .dead:=by
 induction l generalizing σ σ' j l' with
 |nil=>simp only[ATz]at h;injection h with h;injection h with _ h;subst h;intro c hc;simp at hc
 |cons c l ih=>
  simp only[ATz]at h
  obtain⟨r,h1,h⟩:=AAz h
  obtain⟨q,h2,h⟩:=AAz h
  split at h
  case isFalse=>simp at h
  injection h with h;injection h with _ h;subst h
  intro c' hc'
  rcases List.mem_cons.1 hc' with e|e
  ·subst e;exact GVz h1
  ·exact ih h2 c' e
theorem Q8z {X:Ctx} {k j:Nat} {v:Value} {c:CV} (h:CVRel X k j v c) (hd:c≠ .dead):v.oneCell'=true:=by
 cases h with
 |sh f p v h=>exact M7z h
 |ow0 f es a=>rfl
 |ow f es rows v blk off cap c elem fr h=>rw[h.val];rfl
 |br0 s o q kd lo f es a=>rfl
 |br s o q kd lo f es rows v blk base tip cap c elem fr h=>rw[h.val];rfl
 |brv s o q lo f es rows v h=>cases h<;>rfl
 |dead v=>exact absurd rfl hd
theorem Hzz {X:Ctx} {k:Nat}:∀{j:Nat} {vs:List Value} {l:List CV},CellsRel X k j vs l→(∀c∈l,c≠ .dead)→∀v∈vs,v.oneCell'=true
 |_,_,_,.nil j,hd=>fun v hv=>by simp at hv
 |_,_,_,.cons j v cv vs l h t,hd=>fun u hu=>by
  rcases List.mem_cons.1 hu with e|e
  ·subst e;exact Q8z h (hd cv (by simp))
  ·exact Hzz t (fun c hc=>hd c (by simp[hc])) u e
end Go.Proofs.YtblelojdboefjaaGreatDoor.R
namespace Go.Proofs.YtblelojdboefjaaGreatDoor.R
open Go
theorem JDz {P:Program} {T:Tys} (hT:TOk P T) {w:World} {t:TypeId} {n:Nat} (hs:T.sz t=some n) {b o:Nat} {v:Value} (hl:v.cells.toList.length=n) {w':World} (h:(storeCells ⟨b,o,none⟩ v.cells.toList).run P w= .ok () w'):
  (Instr.storeAt t (.pointer (some ⟨b,o,none⟩)) v).run P w= .ok () w':=by
 obtain⟨i,h1,h2⟩:=hT.sz t n hs
 have h3:v.cells.size=i.size:=by rw[h2,←hl];simp
 simp only[Instr.storeAt,Sem.run_bind,Gxz,Result.andThen_ok,storeVar,Dqz h1]
 rw[if_neg (by simp[h3])]
 exact h
theorem Tcz {kp:Option Nat} {P:Program} {T:Tys} (hT:TOk P T) {X:Ctx} {a:Act} {gv:List Value} {σ:St} (hg:Good X (All a gv) σ NoE) {N:Nat} (hN:N=a.tmps.size) {oty t:TypeId} {n s o:Nat} (hn:T.sz t=some n) {p x:Operand} {cs:List CV}
    (hp:opd T N oty (Abz s o n σ) p= .bp s o) (hx:cells? (opd T N oty (Abz s o n σ) x)=some cs) (hlen:cs.length=n) {σ2:St} {l' l:List CV} (h:ATz kp s o cs (Abz s o n σ)=some (σ2,l'))
    (hl:σ2.getD s .undef= .c .box l) (hfit:o+n≤l.length):
    ∃X',(Instr.storeAt t (a.eval p) (a.eval x)).run P X.w= .ok () X'.w∧Goes X X'∧Good X' (All a gv) (σ2.set s (.c .box (lay l' o l))) NoE:=by
  obtain⟨X1,k1,hno⟩:=E8z (All a gv) s n o hg
  have hp1:=Bcz (T:=T) (ty:=oty) k1.good hN p
  have hx1:=Bcz (T:=T) (ty:=oty) k1.good hN x
  rw[hp]at hp1
  obtain⟨hc,_⟩:=D4z hx1 hx
  obtain⟨X2,q⟩:=GWz (All a gv) kp s k1.good hc.ocells (fun p h1 h2=>⟨Dzz k1.good (hno p h1 (by omega)),hno p h1 (by omega)⟩) h
  have hq1:=S3z h
  have hp0:=hp1 0
  generalize hpv:a.eval p=pv at hp0
  cases hp0 with
  |bp _ _ blk base tip ho=>
   
    have hσ2:σ2[s]? =some (.c .box l):=by
      rw[List.getD_eq_getElem?_getD]at hl
      cases e:σ2[s]? with
      |none=>rw[e]at hl;simp at hl
      |some y=>rw[e]at hl;simpa using hl
    have hlt:s<σ2.length:=(List.getElem?_eq_some_iff.1 hσ2).1
    have hlv:s<(All a gv).length:=by rw[q.good.frame.1];exact hlt
    have hfr:=q.good.frame.2 s _ _ (List.getElem?_eq_getElem hlv) hσ2
    obtain⟨blk2,base2,tip2,c,elem,fr,hv2,ho2,hb2,hfr2,hcr2⟩:=Eaz hfr
   
    have hσ1:∃l1,(Abz s o n σ)[s]? =some (.c .box l1):=k1.good.tags.box _ _ _ _ _ ho
    obtain⟨l1,hl1⟩:=hσ1
    have hfr1:=k1.good.frame.2 s _ _ (List.getElem?_eq_getElem hlv) hl1
    obtain⟨blk1,base1,tip1,c1,elem1,fr1,hv1,ho1,_,_,_⟩:=Eaz hfr1
    have e1:blk=blk1:=k1.good.inv.one _ _ _ _ _ _ _ _ _ ho ho1
    rw[hv1]at hv2
    injection hv2 with hv2;injection hv2 with hv2;injection hv2 with hv2
    subst e1;subst hv2
    have hcl:=CellsRel.length hcr2
    have hql:=CellsRel.length q.cells
    have hw2:X2.w=X.w:=q.w.trans k1.w
    have hvl:(a.eval x).cells.toList.length=n:=by rw[hql,q.len,hlen]
    obtain⟨w',c',hrun,hwr,hcc⟩:=IJz (P:=P) (w:=X2.w) (b:=blk) (o:=o) hb2 hfr2 (vs:=(a.eval x).cells.toList) (by
      have:c.size=l.length:=by simpa using hcl
      rw[hvl];omega) (Hzz q.cells fun c hc=>hq1 c hc)
    rw[hw2]at hrun
    refine⟨X2.turned w',JDz hT hn hvl hrun,(k1.goes.trans q.goes).trans (Gnz hwr ho2),?_,⟨?_,?_⟩,?_,?_⟩
    · exact Fbz q.good.inv hwr.size
    · simpa using q.good.frame.1
    · intro k v sv hv hs
      by_cases hk:k=s
      · subst hk
        rw[List.getElem?_set_self hlt]at hs
        injection hs with hs;subst hs
        have:v= .pointer (some ⟨blk,0,none⟩):=by
          rw[List.getElem?_eq_getElem hlv]at hv
          injection hv with hv
          rw[←hv,hv1]
        subst this
        refine .box blk base2 tip2 c' elem fr _ ho2 hwr.at_ ?_ ?_
        · have:c'.size=c.size:=by
            have e3:=congrArg List.length hcc
            have e4:c.size=l.length:=by simpa using hcl
            simp only[List.length_append,List.length_take,List.length_drop,Array.length_toList]at e3
            simp only[Array.length_toList]at hvl
            omega
          rw[this];exact hfr2
        · refine Ecz q.good.inv hwr ho2 ?_
          rw[hcc]
          have e4:c.size=l.length:=by simpa using hcl
          have hn':l'.length=n:=by rw[q.len,hlen]
          unfold lay
          refine CellsRel.append (CellsRel.append (hcr2.take o) ?_) ?_
          · rw[List.length_take,Nat.zero_add,Nat.min_eq_left (by omega)]
            exact q.cells
          · rw[hvl,hn']
            have:=hcr2.drop (o+n)
            rw[List.length_append,List.length_take,hn',Nat.min_eq_left (by omega)]
            exact this
      · rw[List.getElem?_set_ne (Ne.symm hk)]at hs
        exact RUz q.good.inv hwr ho2 hk (q.good.frame.2 k v sv hv hs)
    · intro b s' p' q' base tip hb
      right
      have hcell:∀p',(ABz (σ2.set s (.c .box (lay l' o l))) s p')=(lay l' o l).getD p' .dead:=fun p'=>Blz (List.getElem?_set_self hlt)
      have hn':l'.length=n:=by rw[q.len,hlen]
      have hlay:∀p',(lay l' o l).getD p' .dead=if p'<o then l.getD p' .dead else if p'<o+n then l'.getD (p' - o) .dead else l.getD p' .dead:=fun p'=>by
        unfold lay
        rw[List.getD_eq_getElem?_getD]
        split
        · rename_i h1
          rw[List.append_assoc,List.getElem?_append_left (by rw[List.length_take];omega),List.getElem?_take,if_pos h1,←List.getD_eq_getElem?_getD]
        · rename_i h1
          split
          · rename_i h2
            rw[List.append_assoc,List.getElem?_append_right (by rw[List.length_take];omega),List.length_take,Nat.min_eq_left (by omega),List.getElem?_append_left (by omega),←List.getD_eq_getElem?_getD]
          · rename_i h2
            rw[List.getElem?_append_right (by rw[List.length_append,List.length_take];omega),List.length_append,List.length_take,Nat.min_eq_left (by omega),List.getElem?_drop,←List.getD_eq_getElem?_getD]
            congr 1;omega
      by_cases hs:s'=s
      · subst hs
        rw[hcell,hlay]
        have hold:=q.good.tags.cell b s' p' q' base tip hb
        rw[Blz hσ2]at hold
        split
        · rename_i h1
          exact hold.resolve_left (by rintro(e|⟨_,e,_⟩);exact e.elim;omega)
        · rename_i h1
          split
          · rename_i h2
            cases hh:(l'.getD (p' - o) .dead).isOw with
            |true=>rfl
            |false=>
              have e1:l'[p' - o]? =some (l'[p' - o]'(by omega)):=List.getElem?_eq_getElem (by omega)
              have:=q.tag (p' - o) _ e1 (by simpa[List.getD_eq_getElem?_getD,e1]using hh)
              rw[show o+(p' - o)=p' from by omega]at this
              exact absurd hb (this b q' base tip)
          · rename_i h2
            exact hold.resolve_left (by rintro(e|⟨_,e,e'⟩);exact e.elim;omega)
      · have hold:=(q.good.tags.cell b s' p' q' base tip hb).resolve_left (by rintro(e|⟨e,_⟩);exact e.elim;exact hs e)
        unfold ABz at hold ⊢
        rw[List.getD_eq_getElem?_getD]at hold ⊢
        rw[List.getElem?_set_ne (Ne.symm hs)]
        exact hold
    · intro b s' q' base tip hb
      by_cases hs:s'=s
      · subst hs;exact⟨_,List.getElem?_set_self hlt⟩
      · obtain⟨l3,h3⟩:=q.good.tags.box b s' q' base tip hb
        exact⟨l3,by rw[List.getElem?_set_ne (Ne.symm hs)];exact h3⟩
end Go.Proofs.YtblelojdboefjaaGreatDoor.R
namespace Go.Proofs.YtblelojdboefjaaGreatDoor.R
open Go
theorem Ooz {X:Ctx} (hi:Inv X) {w':World} {b s o:Nat} {q:Path} {base0 tip0:Nat} {c:Array Value} {elem:TypeId} {fr:Nat×Nat} (h:Wrote X.w w' b c elem fr) (ho:X.own b=some (s,o+1,q,base0,tip0)):Near s o X (X.turned w')where
 V:=fun f k hk=>EJz hi h ho f k hk
 own:=fun k s' p q' base tip hk hne=>⟨hk,h.else_ k fun e=>by
  subst e
  rw[ho]at hk
  injection hk with hk;injection hk with h1 hk;injection hk with h2 _
  exact hne ⟨h1.symm,h2.symm⟩⟩
theorem ORd.getP {h:Array Obj} {V:Nat→Prop} {own:Nat→Option Own} {s p:Nat} {es:Nat} {rows:List (List PV)}:∀{r q:Path} {v:Value} {x:PV},ORd h V own s p q v x→R.getP r x=some (es,rows)→∃v',ORd h V own s p (q++r) v' (.o es rows)
 |[],q,v,x,h,e=>by
  cases x<;>simp only[R.getP]at e<;>first|(simp at e;done)|skip
  injection e with e;injection e with e1 e2;subst e1;subst e2
  exact⟨v,by simpa using h⟩
 |(i,j)::r,q,v,x,h,e=>by
  cases x<;>simp only[R.getP]at e<;>first|(simp at e;done)|skip
  obtain⟨row,h1,e⟩:=AAz e
  obtain⟨y,h2,e⟩:=AAz e
  cases h with
  |rd _ _ _ h=>cases h
  |o0=>simp at h1
  |o _ blk off n cap _ c elem fr _ ho hb hn hc hf hl hr=>
   obtain⟨g1,g2⟩:=hr.get i row h1
   obtain⟨u,hu,hy⟩:=g2.get j y h2
   obtain⟨v',hv'⟩:=ORd.getP hy e
   exact⟨v',by simpa using hv'⟩
theorem OOz {X:Ctx} {vs:List Value} {σ:St} {E:Nat→Nat→Prop} (hg:Good X vs σ E) {s o:Nat} {c:CV} (hcell:ABz σ s o=c) (hd:c≠ .dead):∃v,CVRel X s o v c:=by
 obtain⟨sh,l,hσ1,hlo⟩:∃sh l,σ[s]? =some (.c sh l)∧l[o]? =some c:=by
  unfold ABz at hcell
  rw[List.getD_eq_getElem?_getD]at hcell
  cases e:σ[s]? with
  |none=>simp[e]at hcell;exact absurd hcell.symm hd
  |some y=>
   cases y with
   |c sh l=>
    refine⟨sh,l,rfl,?_⟩
    simp only[e,Option.getD_some,List.getD_eq_getElem?_getD]at hcell
    cases e2:l[o]? with
    |none=>simp[e2]at hcell;exact absurd hcell.symm hd
    |some y=>simpa[e2]using hcell
   |_=>simp[e]at hcell;exact absurd hcell.symm hd
 have hlt:s<σ.length:=(List.getElem?_eq_some_iff.1 hσ1).1
 have hlv:s<vs.length:=by rw[hg.frame.1];exact hlt
 have hfr:=hg.frame.2 s _ _ (List.getElem?_eq_getElem hlv) hσ1
 generalize vs[s]=v1 at hfr
 have this:∀{vs:List Value} {l:List CV} {j:Nat},CellsRel X s j vs l→∀q c,l[q]? =some c→∃v,CVRel X s (j+q) v c:=by
  intro vs l j hcr
  induction hcr with
  |nil j=>intro q c e;simp at e
  |cons j v cv vs l h t ih=>
   intro q c e
   cases q with
   |zero=>simp at e;subst e;exact⟨v,h⟩
   |succ q=>
    obtain⟨u,hu⟩:=ih q c (by simpa using e)
    exact⟨u,by rw[show j+(q+1)=j+1+q from by omega];exact hu⟩
 have hcr:∃vs,CellsRel X s 0 vs l:=by
  cases sh with
  |box=>obtain⟨_,_,_,c,_,_,_,_,_,_,hcr⟩:=Eaz hfr;exact⟨_,hcr⟩
  |_=>cases hfr with|c _ _ vs _ hf hcr=>exact⟨vs,hcr⟩
 obtain⟨vs',hcr⟩:=hcr
 obtain⟨v,hv⟩:=this hcr o _ hlo
 exact⟨v,by simpa using hv⟩
theorem Oiz {σ:St} {s o:Nat} {q:Path} {f:Bool} {es:Nat} {rows:List (List PV)} (h:atP σ s o q=some (f,es,rows)):∃es0 rows0,ABz σ s o= .ow f es0 rows0∧R.getP q (.o es0 rows0)=some (es,rows):=by
 unfold atP CV.atQ at h
 split at h
 ·rename_i f1 es1 rows1 e
  obtain⟨r,h1,h2⟩:=AHz h
  injection h2 with h2 h3;subst h2;subst h3
  exact⟨es1,rows1,e,h1⟩
 ·simp at h
theorem Iqz {X:Ctx} {vs:List Value} {σ:St} {E:Nat→Nat→Prop} (hg:Good X vs σ E) {s o:Nat} {q:Path} {f:Bool} {es:Nat} {rows:List (List PV)} (h:atP σ s o q=some (f,es,rows)):∃v,X.ORd f s o q v (.o es rows):=by
 obtain⟨es0,rows0,h1,h2⟩:=Oiz h
 obtain⟨v,hv⟩:=OOz hg h1 (by simp)
 obtain⟨v',hv'⟩:=(KTz hv).getP h2
 exact⟨v',by simpa using hv'⟩
theorem T8z {X X':Ctx} {vs:List Value} {σ:St} {E:Nat→Nat→Prop} (hg:Good X vs σ E) {s o:Nat} {q:Path} {g:PV→PV} {f':Bool} (H:Modded X X' s o q g f') (hi':Inv X') (hsub:∀b t,X'.own b=some t→X.own b=some t)
  (how:∀f es rows,ABz σ s o= .ow f es rows→(owBy (f||f') (modP g q (.o es rows))).isOw=true):Good X' vs (modS s o q g f' σ) E:=by
 refine⟨hi',hg.frame.map (HVz H),?_,?_⟩
 ·intro b' s' p q' base' tip' hb
  refine(hg.tags.cell b' s' p q' base' tip' (hsub _ _ hb)).imp id fun h1=> ?_
  unfold modS
  rw[Byz _ _ σ s' p (IWz ..) h1]
  by_cases hk:s'=s∧p=o
  ·obtain⟨rfl,rfl⟩:=hk
   cases e:ABz σ s' p with
   |ow f es rows=>simp only[modC,and_self,if_true];exact how _ _ _ e
   |_=>rw[e]at h1;simp[CV.isOw]at h1
  ·rw[L9z (fun f es1 rows1 e=>hk) (fun a b q kd lo f es1 rows1 e=>by rw[e]at h1;simp[CV.isOw]at h1)]
   exact h1
 ·intro b' s' q' base' tip' hb
  exact IZz (hg.tags.box b' s' q' base' tip' (hsub _ _ hb))
theorem JNz {X X':Ctx} (hi:Inv X) {s o:Nat} {q:Path} (near:Near s o X X') (out:∀b q1 base tip,X.own b=some (s,o+1,q1,base,tip)→(∀r,q1≠q++r)→X'.own b=some (s,o+1,q1,base,tip)∧X'.w.heap[b]? =X.w.heap[b]?)
  {b base tip:Nat} {c c':Array Value} {elem:TypeId} {fr:Nat×Nat} {es:Nat} {new:List (List PV)} {f':Bool} (ho:X.own b=some (s,o+1,q,base,tip)) (ho':X'.own b=some (s,o+1,q,base,tip)) (hc:X.w.heap[b]? =some (.cells c elem fr))
  (hc':X'.w.heap[b]? =some (.cells c' elem fr)) (hsz:c'.size=c.size) (hr:X'.ORows f' s o q 0 c' base es new):Modded X X' s o q (AKz es new) f' where
 near:=near
 out:=out
 to:=fun f v x h=>by
  have hV:∀b,X.V f b→X'.V (f||f') b∧X'.w.heap[b]? =X.w.heap[b]? :=fun b hb=>⟨V_or f' (near.V f b hb).1,(near.V f b hb).2⟩
  have hone:=C3z h
  cases h with
  |rd _ _ _ h=>
   have h2:=h.mono hV
   cases h<;>exact .rd _ _ _ h2
  |o0 _ a es1=>
   simp only[AKz]
   split
   ·rename_i hcond
    have:new=[]:=List.length_eq_zero_iff.1 (by rw[←hcond.2];rfl)
    subst this
    rw[hcond.1]
    exact .o0 _ a es
   ·exact .rd _ _ _ (.x _ hone.1 hone.2)
  |o _ blk off n cap es1 c1 elem1 fr1 rows ho1 hb1 hn1 hc1 hf1 hl1 hr1=>
   simp only[AKz]
   split
   ·rename_i hcond
    obtain⟨rfl,hlen⟩:=hcond
    have e1:blk=b:=hi.one _ _ _ _ _ _ _ _ _ ho1 ho
    subst e1
    have e2:=ho1.symm.trans ho
    injection e2 with e2;injection e2 with _ e2;injection e2 with _ e2;injection e2 with _ e2;injection e2 with e2 e3
    subst e2;subst e3
    have e4:=hb1.symm.trans hc
    injection e4 with e4;injection e4 with e4 e5 e6
    subst e4;subst e5;subst e6
    exact .o q blk off n cap es1 c' elem1 fr1 new ho' hc' (by rw[hn1,hlen]) hc1 (by rw[hsz];exact hf1) (by rw[hsz];exact hl1) (hr.mono (fun b hb=>⟨Etz f hb,rfl⟩) fun b q base tip ho=>⟨ho,rfl⟩)
   ·exact .rd _ _ _ (.x _ hone.1 hone.2)
theorem Lnz {X X':Ctx} {vs:List Value} {σ:St} {E:Nat→Nat→Prop} (hg:Good X vs σ E) {s o:Nat} {q:Path} {es:Nat} {rows rows':List (List PV)} {f0 f':Bool} (H:Modded X X' s o q (AKz es rows') f') (hi':Inv X') (hsub:∀b t,X'.own b=some t→X.own b=some t)
  (hat:atP σ s o q=some (f0,es,rows)) (hlen:rows.length=rows'.length):Good X' vs (turn s o q es f' rows' σ) E:=by
 obtain⟨es0,rows0,h1,h2⟩:=Oiz hat
 refine T8z hg H hi' hsub fun f es1 rows1 e=> ?_
 rw[h1]at e
 injection e with e1 e2 e3;subst e1;subst e2;subst e3
 cases q with
 |nil=>
  simp only[R.getP]at h2
  injection h2 with h2;injection h2 with h2 h3;subst h2;subst h3
  simp[modP,AKz,hlen,owBy,CV.isOw]
 |cons a q=>exact ISz _ _ _ _ _ _
theorem FZz {X:Ctx} {vs:List Value} {σ:St} {E:Nat→Nat→Prop} (hg:Good X vs σ E) {w':World} {b s o:Nat} {q:Path} {base tip:Nat} {c c':Array Value} {elem:TypeId} {fr:Nat×Nat} (h:Wrote X.w w' b c' elem fr) (ho:X.own b=some (s,o+1,q,base,tip))
  (hc:X.w.heap[b]? =some (.cells c elem fr)) (hsz:c'.size=c.size) {es:Nat} {rows rows':List (List PV)} {f0 f':Bool} (hat:atP σ s o q=some (f0,es,rows)) (hlen:rows.length=rows'.length) (hr:(X.turned w').ORows f' s o q 0 c' base es rows'):
  Goes X (X.turned w')∧Good (X.turned w') vs (turn s o q es f' rows' σ) E:=
 ⟨Gnz h ho,Lnz hg (JNz hg.inv (Ooz hg.inv h ho) (fun b1 q1 base1 tip1 h1 h2=>⟨h1,h.else_ b1 fun e=>by
  subst e
  rw[ho]at h1
  injection h1 with h1;injection h1 with _ h1;injection h1 with _ h1;injection h1 with h1 _
  exact h2 [] (by simp[h1])⟩) ho ho hc h.at_ hsz hr) (Fbz hg.inv h.size) (fun _ _ h=>h) hat hlen⟩
theorem Niz {l r:List PV} {j k:Nat} (h:j+l.length≤r.length):(layP l j r)[k]? =if k<j then r[k]? else if k<j+l.length then l[k - j]? else r[k]? :=by
 unfold layP
 split
 ·rename_i h1
  rw[List.append_assoc,List.getElem?_append_left (by rw[List.length_take];omega),List.getElem?_take,if_pos h1]
 ·split
  ·rw[List.append_assoc,List.getElem?_append_right (by rw[List.length_take];omega),List.length_take,Nat.min_eq_left (by omega),List.getElem?_append_left (by omega)]
  ·rw[List.getElem?_append_right (by rw[List.length_append,List.length_take];omega),List.length_append,List.length_take,Nat.min_eq_left (by omega),List.getElem?_drop]
   congr 1;omega
theorem JTz {l r:List PV} {j:Nat} (h:j+l.length≤r.length):(layP l j r).length=r.length:=by
 unfold layP;simp;omega
theorem H1z {c c':Array Value} {o:Nat} {vs:List Value} (h:c'.toList=c.toList.take o++vs++c.toList.drop (o+vs.length)) (hl:o+vs.length≤c.size) (k:Nat):c'[k]? =if k<o then c[k]? else if k<o+vs.length then vs[k - o]? else c[k]? :=by
 rw[←Array.getElem?_toList,h]
 split
 ·rename_i h1
  rw[List.append_assoc,List.getElem?_append_left (by rw[List.length_take];simp;omega),List.getElem?_take,if_pos h1]
  simp
 ·split
  ·rw[List.append_assoc,List.getElem?_append_right (by rw[List.length_take];simp;omega),List.length_take,Nat.min_eq_left (by simp;omega),List.getElem?_append_left (by omega)]
  ·rw[List.getElem?_append_right (by rw[List.length_append,List.length_take];simp;omega),List.length_append,List.length_take,Nat.min_eq_left (by simp;omega),List.getElem?_drop]
   rw[←Array.getElem?_toList]
   congr 1;omega
theorem J1z {c c':Array Value} {o:Nat} {vs:List Value} (h:c'.toList=c.toList.take o++vs++c.toList.drop (o+vs.length)) (hl:o+vs.length≤c.size):c'.size=c.size:=by
 have e:=congrArg List.length h
 simp at e
 omega
theorem OLs.one {X:Ctx} {f:Bool} {s o:Nat} {q:Path} {i j:Nat} {vals:List Value} {ps:List PV} (h:OLs X f s o q i j vals ps):∀v∈vals,v.oneCell'=true:=fun v hv=>by
 obtain⟨n,hn,e⟩:=List.getElem_of_mem hv
 have h1:vals[n]? =some v:=by rw[List.getElem?_eq_getElem hn,e]
 have h2:ps[n]? =some (ps[n]'(by rw[←h.1];exact hn)):=List.getElem?_eq_getElem _
 exact(C3z (h.2 n v _ h1 h2)).1
theorem H2z {P:Program} {T:Tys} (hT:TOk P T) {X:Ctx} {vs:List Value} {σ:St} {E:Nat→Nat→Prop} (hg:Good X vs σ E) {t:TypeId} {n s o:Nat} {q:Path} {i f es:Nat} (hn:T.sz t=some n) {v:Value} {blk base tip:Nat} (ho1:X.own blk=some (s,o+1,q,base,tip))
    (hlen:v.cells.toList.length=n) {f0 f':Bool} {rows:List (List PV)} {row ps:List PV} (hat:atP σ s o q=some (f0,es,rows)) (hrow:rows[i]? =some row) (hfit:f+n≤row.length) (hr:OLs X f' s o q i f v.cells.toList ps):
    ∃w',(Instr.storeAt t (.pointer (some ⟨blk,base+i*es+f,none⟩)) v).run P X.w= .ok () w'∧Goes X (X.turned w')∧Good (X.turned w') vs (turn s o q es (f0||f') (rows.set i (layP ps f row)) σ) E:=by
  obtain⟨v0,hv0⟩:=Iqz hg hat
  have hil:i<rows.length:=(List.getElem?_eq_some_iff.1 hrow).1
  have hps:ps.length=n:=by rw[←hr.1,hlen]
  cases hv0 with
  |rd _ _ _ h=>cases h
  |o0=>simp at hrow
  |o _ blk1 off nn cap _ c elem fr _ ho hb hnn hcap hfits hl hrr=>
    have e1:blk1=blk:=hg.inv.one _ _ _ _ _ _ _ _ _ ho ho1
    subst e1
    have e2:=ho1.symm.trans ho
    injection e2 with e2;injection e2 with _ e2;injection e2 with _ e2;injection e2 with _ e2;injection e2 with e2 e3
    subst e2;subst e3
    obtain⟨g1,g2⟩:=hrr.get i row hrow
    have hsz1:base+i*es+es≤c.size:=by
      have h1:(i+1)*es≤cap*es:=Nat.mul_le_mul_right _ (by omega)
      rw[Nat.add_mul]at h1
      omega
    obtain⟨w',c',hrun,hwr,hcc⟩:=IJz (P:=P) (w:=X.w) (b:=blk1) (o:=base+i*es+f) hb hl (vs:=v.cells.toList) (by rw[hlen];omega) hr.one
    have hfit2:base+i*es+f+v.cells.toList.length≤c.size:=by rw[hlen];omega
    have hget:=H1z hcc hfit2
    have hV:∀fl b,X.V fl b→(X.turned w').V fl b∧w'.heap[b]? =X.w.heap[b]? :=fun fl b hb=>EJz hg.inv hwr ho fl b hb
   
    have below:∀{fl:Bool} {i' j':Nat} {u:Value} {x:PV},X.ORd fl s o (q++[(i',j')]) u x→(X.turned w').ORd fl s o (q++[(i',j')]) u x:=fun{fl i' j' u x} hx=>by
      have:=hx.turns (h':=w'.heap) (V':=(X.turned w').V fl) (own':=X.own) (s':=s) (p':=o+1) (φ:=id) (Ext:=fun p=>∃r,p=q++[(i',j')]++r) ⟨fun p x ⟨r,hr⟩=>⟨r++[x],by rw[hr,List.append_assoc]⟩,fun _ _ _=>rfl,hV fl,fun b p base2 tip2 ⟨r,hr1⟩ hbo=>⟨hbo,hwr.else_ b fun e=>by
        rw[e,ho]at hbo
        injection hbo with hbo;injection hbo with _ hbo;injection hbo with _ hbo;injection hbo with hbo _
        have:=congrArg List.length (hbo.trans hr1)
        simp at this⟩⟩ ⟨[],by simp⟩
      exact this
    have hrows:(X.turned w').ORows (f0||f') s o q 0 c' base es (rows.set i (layP ps f row)):=by
      have hr0:(X.turned w').ORows f0 s o q 0 c base es rows:=ORows.mk fun k row' hk=>by
        obtain⟨h1,h2⟩:=hrr.get k row' hk
        exact⟨h1,ORow.mk fun j x hj=>by
          obtain⟨u,hu,hx⟩:=h2.get j x hj
          exact⟨u,hu,below hx⟩⟩
      have hlp:f+ps.length≤row.length:=by omega
      refine L3z hr0 (fun b hb=>V_or f' hb) hil (by rw[JTz hlp];exact g1) (fun j x hj=> ?_) fun k hk=> ?_
      · rw[Niz hlp]at hj
        rw[hget,hlen]
        split at hj
        · rename_i h1
          rw[if_pos (by omega)]
          obtain⟨y,hy,hyr⟩:=g2.get j x hj
          exact⟨y,hy,(below (by simpa using hyr)).mono (fun b hb=>⟨V_or f' hb,rfl⟩) fun b q base tip ho=>⟨ho,rfl⟩⟩
        · rename_i h1
          split at hj
          · rename_i h2
            rw[if_neg (by omega),if_pos (by omega)]
            have hjl:j - f<v.cells.toList.length:=by omega
            have h3:=hr.2 (j - f) _ x (List.getElem?_eq_getElem hjl) hj
            rw[show f+(j - f)=j from by omega]at h3
            refine⟨_,?_,(below h3).mono (fun b hb=>⟨Etz f0 hb,rfl⟩) fun b q base tip ho=>⟨ho,rfl⟩⟩
            rw[show base+i*es+j - (base+i*es+f)=j - f from by omega]
            exact List.getElem?_eq_getElem hjl
          · rename_i h2
            rw[if_neg (by omega),if_neg (by omega)]
            obtain⟨y,hy,hyr⟩:=g2.get j x hj
            exact⟨y,hy,(below (by simpa using hyr)).mono (fun b hb=>⟨V_or f' hb,rfl⟩) fun b q base tip ho=>⟨ho,rfl⟩⟩
      · rw[hget,hlen]
        rcases hk with hk|hk
        · rw[if_pos (by omega)]
        · rw[if_neg (by omega),if_neg (by omega)]
    obtain⟨G,hgood⟩:=FZz hg hwr ho hb (J1z hcc hfit2) hat (by simp) hrows
    exact⟨w',JDz hT hn hlen hrun,G,hgood⟩
def Dyz (q:Path) (i f n:Nat) (p:Path):Bool:=
 match strip q p with
 |some ((i',j)::_)=>i'==i&&decide (f≤j)&&decide (j<f+n)
 |_=>false
def CRz (s o:Nat) (q:Path) (i f n:Nat):Path→Nat→Nat→Option Own:=fun p base tip=>if Dyz q i f n p=true then none else some (s,o+1,p,base,tip)
theorem EEz {s o:Nat} {q:Path} {i f n:Nat} {p:Path} {base tip:Nat} {t:Own} (h:CRz s o q i f n p base tip=some t):Dyz q i f n p=false∧t=(s,o+1,p,base,tip):=by
 unfold CRz at h
 split at h
 ·simp at h
 ·rename_i hb
  injection h with h
  exact⟨by simpa using hb,h.symm⟩
theorem Ioz {s o:Nat} {q:Path} {i f n:Nat} {p:Path} {base tip:Nat} (h:Dyz q i f n p=false):CRz s o q i f n p base tip=some (s,o+1,p,base,tip):=by simp[CRz,h]
theorem Qsz {q:Path} {i f n i' j':Nat} {r:Path} (h:i'≠i∨j'<f∨f+n≤j'):Dyz q i f n (q++[(i',j')]++r)=false:=by
 unfold Dyz
 rw[List.append_assoc,Caz]
 simp only[List.cons_append,List.nil_append]
 rcases h with h|h|h
 ·simp[h]
 ·have:¬(f≤j'):=by omega
  simp[this]
 ·have:¬(j'<f+n):=by omega
  simp[this]
theorem Qrz {q:Path} {i f n j':Nat} {r:Path} (h1:f≤j') (h2:j'<f+n):Dyz q i f n (q++[(i,j')]++r)=true:=by
 unfold Dyz
 rw[List.append_assoc,Caz]
 simp[h1,h2]
theorem RGz {X:Ctx} {vs:List Value} {σ:St} {E:Nat→Nat→Prop} (hg:Good X vs σ E) {s o:Nat} {q:Path} {i f n es:Nat} {f0:Bool} {rows:List (List PV)} {row:List PV} (hat:atP σ s o q=some (f0,es,rows)) (hrow:rows[i]? =some row) (hfit:f+n≤row.length):
  Modded X (X.retag s o (CRz s o q i f n) False) s o q (AKz es (rows.set i (layP (blanks n) f row))) f0∧Good (X.retag s o (CRz s o q i f n) False) vs (turn s o q es f0 (rows.set i (layP (blanks n) f row)) σ) E∧
  (∀b t,(X.retag s o (CRz s o q i f n) False).own b=some t→X.own b=some t)∧(∀j r b base tip,f≤j→j<f+n→(X.retag s o (CRz s o q i f n) False).own b≠some (s,o+1,q++[(i,j)]++r,base,tip))∧
  ∀b base tip,X.own b=some (s,o+1,q,base,tip)→(X.retag s o (CRz s o q i f n) False).own b=some (s,o+1,q,base,tip):=by
 obtain⟨v0,hv0⟩:=Iqz hg hat
 have hil:i<rows.length:=(List.getElem?_eq_some_iff.1 hrow).1
 have hbl:f+(blanks n).length≤row.length:=by simpa[blanks]using hfit
 have hsub:∀b t,(X.retag s o (CRz s o q i f n) False).own b=some t→X.own b=some t:=fun b t h=>by
  rcases Akz h with⟨h1,_⟩|⟨p,base,tip,h1,h2⟩
  ·exact h1
  ·rw[(EEz h2).2];exact h1
 have hself:∀b base tip,X.own b=some (s,o+1,q,base,tip)→(X.retag s o (CRz s o q i f n) False).own b=some (s,o+1,q,base,tip):=fun b base tip h=>by
  rw[Apz h]
  refine Ioz ?_
  unfold Dyz
  rw[Fcz]
 have hinv:Inv (X.retag s o (CRz s o q i f n) False):=by
  refine hg.inv.retag (fun q1 base tip s1 p1 q2 base2 tip2 h hn=> ?_) fun b1 b2 q1 base1 tip1 q2 base2 tip2 s1 p1 q3 base3 tip3 base4 tip4 _ _ h1 h2=> ?_
  ·have:=(EEz h).2
   injection this with e1 e2;injection e2 with e2 _
   exact absurd ⟨e1,e2⟩ hn
  ·have e1:=(EEz h1).2
   have e2:=(EEz h2).2
   injection e1 with _ e1;injection e1 with _ e1;injection e1 with e1 _
   injection e2 with _ e2;injection e2 with _ e2;injection e2 with e2 _
   rw[←e1,←e2]
 cases hv0 with
 |rd _ _ _ h=>cases h
 |o0=>simp at hrow
 |o _ blk off nn cap _ c elem fr _ ho hb hnn hcap hfits hl hrr=>
  have keep:∀{fl:Bool} {i' j':Nat} {u:Value} {x:PV},(i'≠i∨j'<f∨f+n≤j')→X.ORd fl s o (q++[(i',j')]) u x→(X.retag s o (CRz s o q i f n) False).ORd fl s o (q++[(i',j')]) u x:=fun{fl i' j' u x} hne hx=>
   hx.turns (φ:=id) (Ext:=fun p=>∃r,p=q++[(i',j')]++r) ⟨fun p x ⟨r,hr⟩=>⟨r++[x],by rw[hr,List.append_assoc]⟩,fun _ _ _=>rfl,AOz.V fl,fun b p base2 tip2 ⟨r,hr⟩ hb=>⟨by
    rw[Apz hb]
    exact Ioz (by rw[hr];exact Qsz hne),rfl⟩⟩ ⟨[],by simp⟩
  have hrows:(X.retag s o (CRz s o q i f n) False).ORows f0 s o q 0 c off es (rows.set i (layP (blanks n) f row)):=by
   refine ORows.mk fun k row' hk=> ?_
   by_cases hki:k=i
   ·subst hki
    rw[List.getElem?_set_self hil]at hk
    injection hk with hk;subst hk
    obtain⟨g1,g2⟩:=hrr.get k row hrow
    refine⟨by rw[JTz hbl];exact g1,ORow.mk fun j x hj=> ?_⟩
    rw[Niz hbl]at hj
    split at hj
    ·rename_i h1
     obtain⟨y,hy,hyr⟩:=g2.get j x hj
     exact⟨y,hy,keep (by omega) hyr⟩
    ·rename_i h1
     split at hj
     ·rename_i h2
      simp only[blanks,List.length_replicate]at h2
      have hjr:j<row.length:=by omega
      obtain⟨y,hy,hyr⟩:=g2.get j _ (List.getElem?_eq_getElem hjr)
      have hx:x= .un:=by
       simp only[blanks,List.getElem?_replicate]at hj
       split at hj
       ·injection hj with hj;exact hj.symm
       ·simp at hj
      subst hx
      exact⟨y,hy,.rd _ _ _ (.x _ (C3z hyr).1 (C3z hyr).2)⟩
     ·rename_i h2
      simp only[blanks,List.length_replicate]at h2
      obtain⟨y,hy,hyr⟩:=g2.get j x hj
      exact⟨y,hy,keep (by omega) hyr⟩
   ·rw[List.getElem?_set_ne (Ne.symm hki)]at hk
    obtain⟨g1,g2⟩:=hrr.get k row' hk
    exact⟨g1,ORow.mk fun j x hj=>by
     obtain⟨y,hy,hyr⟩:=g2.get j x hj
     exact⟨y,hy,keep (.inl (by omega)) hyr⟩⟩
  have hM:Modded X (X.retag s o (CRz s o q i f n) False) s o q (AKz es (rows.set i (layP (blanks n) f row))) f0:=
   JNz hg.inv AOz (fun b1 q1 base1 tip1 h1 h2=>⟨by
    rw[Apz h1]
    refine Ioz ?_
    unfold Dyz
    cases e:strip q q1 with
    |none=>rfl
    |some r=>exact absurd (CBz e) (h2 r),rfl⟩) ho (hself _ _ _ ho) hb hb rfl hrows
  refine⟨hM,Lnz hg hM hinv hsub hat (by simp),hsub,fun j r b base tip h1 h2 h3=> ?_,hself⟩
  rcases Akz h3 with⟨_,h4⟩|⟨p,base2,tip2,h4,h5⟩
  ·exact h4 ⟨rfl,rfl⟩
  ·obtain⟨h6,h7⟩:=EEz h5
   injection h7 with _ h7;injection h7 with _ h7;injection h7 with h7 _
   rw[←h7,Qrz h1 h2]at h6
   simp at h6
theorem Tbz {P:Program} {T:Tys} (hT:TOk P T) {X:Ctx} {a:Act} {gv:List Value} {σ σ':St} (hg:Good X (All a gv) σ NoE) {N:Nat} (hN:N=a.tmps.size) {oty t:TypeId} {n s o:Nat} {q:Path} {kd i f:Nat} {fl:Bool} {es:Nat} {row0:List PV} (hn:T.sz t=some n) {p x:Operand} {cs:List CV}
    (hx:cells? (opd T N oty σ x)=some cs) (hlen:cs.length=n) (hp:opd T N oty σ p= .ep s o q kd fl es i f row0) (hkd:kd≤1) (h:Iwz T σ n s o q es i f cs=some σ'):
    ∃X',(Instr.storeAt t (a.eval p) (a.eval x)).run P X.w= .ok () X'.w∧Goes X X'∧Good X' (All a gv) σ' NoE:=by
  have hx0:=Bcz (T:=T) (ty:=oty) hg hN x
  have hp0:=Bcz (T:=T) (ty:=oty) hg hN p 0
  rw[hp]at hp0
  obtain⟨hc,_⟩:=D4z hx0 hx
  have hvl:(a.eval x).cells.toList.length=n:=by rw[hc.length,hlen]
  generalize hpv:a.eval p=pv at hp0
  unfold Iwz at h
  obtain⟨⟨f0,es1,rows1⟩,hat,h⟩:=AAz h
  obtain⟨row1,hrow1,h⟩:=AAz h
  simp only at hrow1 h
  split at h
  case isFalse=>simp at h
  rename_i hcond
  obtain⟨rfl,hfit⟩:=hcond
  cases hp0 with
  |epv=>omega
  |ep _ _ _ _ _ _ _ _ _ blk1 off1 base tip c1 elem1 fr1 ho1 he1 hl1 hb1 hfr1 hr1=>
    subst he1
    split at h
    ·
      rename_i hflat
      obtain⟨⟨σ1,f',ps⟩,hnest,h⟩:=AHz h
      subst h
      simp only
      have hall:∀{l:List CV} {σ σ1:St} {f':Bool} {ps:List PV},l.all EOz=true→Aiz none id l σ=some (σ1,f',ps)→σ1=σ:=by
        intro l
        induction l with
        |nil=>intro σ σ1 f' ps _ h;simp only[Aiz]at h;injection h with h;injection h with h _;exact h.symm
        |cons c l ih=>
          intro σ σ1 f' ps hl h
          simp only[List.all_cons,Bool.and_eq_true]at hl
          simp only[Aiz,id]at h
          obtain⟨⟨σ2,f2,p2⟩,h1,h⟩:=AAz h
          obtain⟨⟨σ3,f3,p3⟩,h2,h⟩:=AHz h
          injection h with h _
          subst h
          have:=ih hl.2 h2
          subst this
          cases c with
          |sh f p=>simp only[nest]at h1;injection h1 with h1;injection h1 with h1 _;exact h1.symm
          |_=>simp[EOz]at hl
      simp only[Bool.and_eq_true]at hflat
      obtain⟨X1,k1,hr⟩:=F8z (All a gv) (m:=id) hg (by simpa using hc.ocells) hnest
      have:σ1=σ:=hall hflat.1 hnest
      subst this
      have ho2:X1.own blk1=some (s,o+1,q,base,tip):=by
       
        obtain⟨v0,hv0⟩:=Iqz k1.good hat
        have hil:i<rows1.length:=(List.getElem?_eq_some_iff.1 hrow1).1
        cases hv0 with
        |rd _ _ _ h=>cases h
        |o0=>simp at hrow1
        |o _ blk2 off2 nn cap _ c elem fr _ ho hb hnn hcap hfits hl hrr=>
          have h1:=k1.sub _ _ ho
          have e1:blk1=blk2:=hg.inv.one _ _ _ _ _ _ _ _ _ ho1 h1
          subst e1
          rw[h1]at ho1
          rw[ho,ho1]
      obtain⟨w',hrun,G,hgood⟩:=H2z hT k1.good hn (i:=i) (f:=f) ho2 hvl hat hrow1 hfit (hr.ols s o q i f)
      rw[k1.w]at hrun
      exact⟨X1.turned w',hrun,k1.goes.trans G,hgood⟩
    ·
      obtain⟨⟨σ2,f',ps⟩,hnest,h⟩:=AAz h
      obtain⟨⟨f2,es2,rows2⟩,hat2,h⟩:=AAz h
      obtain⟨row2,hrow2,h⟩:=AAz h
      simp only at hnest hat2 hrow2 h
      split at h
      case isFalse=>simp at h
      rename_i hcond2
      obtain⟨rfl,hfit2⟩:=hcond2
      injection h with h;subst h
      obtain⟨hM,hgood1,hsub1,hfree1,hself1⟩:=RGz hg hat hrow1 hfit
      let X1:=X.retag s o (CRz s o q i f n) False
      have G1:Goes X X1:=CTz X s o _ False
      have hoc:OCells X1 (turn s o q es2 f0 (rows1.set i (layP (blanks n) f row1)) σ) (a.eval x).cells.toList (cs.map (modL s o q (AKz es2 (rows1.set i (layP (blanks n) f row1))) f0)):=by
        have:∀{vs:List Value} {l:List CV},VCells X vs l→VCells X1 vs (l.map (modL s o q (AKz es2 (rows1.set i (layP (blanks n) f row1))) f0)):=by
          intro vs l hv
          induction hv with
          |nil=>exact .nil
          |cons v c vs l h t ih=>
            refine .cons v _ vs _ (fun k j=> ?_) ih
            have hcv:=h k j
            cases c with
            |sh f p=>cases hcv with|sh _ _ _ h1=>exact .sh f p v (AOz.sh h1)
            |dead=>exact .dead v
            |ow f es rows=>
              obtain⟨rfl,a,rfl⟩:=Dvz fun k=>h k 0
              exact .ow0 f es a
            |br s1 o1 q1 kd lo f es rows=>
              have:=(HVz hM).cv k j v _ hcv
              exact this
        exact(this hc).ocells
      have ho2:X1.own blk1=some (s,o+1,q,base,tip):=hself1 _ _ _ ho1
      cases hmo:T.mo with
      |false=>
        simp only[hmo,Bool.false_eq_true,if_false]at hnest
        obtain⟨X2,k2,hr⟩:=F8z (All a gv) hgood1 hoc hnest
        have ho3:X2.own blk1=some (s,o+1,q,base,tip):=by
          obtain⟨v0,hv0⟩:=Iqz k2.good hat2
          cases hv0 with
          |rd _ _ _ h=>cases h
          |o0=>simp at hrow2
          |o _ blk2 off2 nn cap _ c elem fr _ ho hb hnn hcap hfits hl hrr=>
            have h1:=k2.sub _ _ ho
            have e1:blk1=blk2:=hgood1.inv.one _ _ _ _ _ _ _ _ _ ho2 h1
            subst e1
            rw[h1]at ho2
            rw[ho,ho2]
        obtain⟨w',hrun,G,hgood⟩:=H2z hT k2.good hn (i:=i) (f:=f) ho3 hvl hat2 hrow2 hfit2 (hr.ols s o q i f)
        rw[k2.w]at hrun
        exact⟨X2.turned w',hrun,(G1.trans k2.goes).trans G,hgood⟩
      |true=>
        simp only[hmo,if_true]at hnest
        have hcl:cs.length=n:=hlen
        obtain⟨X2,m2,k2,hr⟩:=G1z (All a gv) hgood1 hoc (fun k r b base tip hk=>hfree1 (f+k) r b base tip (by omega) (by omega)) hnest
        have ho3:X2.own blk1=some (s,o+1,q,base,tip):=k2.tgt _ _ _ _ ho2
        have hat2':=hat2
        have howd:(ABz σ2 s o).isOw=true:=by
          obtain⟨es0,rows0,h1,_⟩:=Oiz hat2
          rw[h1];rfl
        have hgood2:Good X2 (All a gv) σ2 NoE:=⟨k2.good.inv,k2.good.frame,fun b s' p' q' base' tip' hb=>by
          rcases k2.good.tags.cell b s' p' q' base' tip' hb with(h1|⟨rfl,rfl⟩)|h1
          · exact .inl h1
          · exact .inr howd
          · exact .inr h1,k2.good.tags.box⟩
        obtain⟨w',hrun,G,hgood⟩:=H2z hT hgood2 hn (i:=i) (f:=f) ho3 hvl hat2 hrow2 hfit2 hr
        rw[k2.w]at hrun
        exact⟨X2.turned w',hrun,(G1.trans k2.goes).trans G,hgood⟩
end Go.Proofs.YtblelojdboefjaaGreatDoor.R
namespace Go.Proofs.YtblelojdboefjaaGreatDoor.R
open Go
structure RdN (h:Array Obj) (V:Nat→Prop) (news:List Value) (es:Nat) (rows:List (List PV)):Prop where
 len:news.length=rows.length*es
 row:∀(i:Nat) (row:List PV),rows[i]? =some row→row.length=es∧∀(j:Nat) (p:PV),row[j]? =some p→∃x,news[i*es+j]? =some x∧Rd h V x p
theorem RdN.mono {h h':Array Obj} {V V':Nat→Prop} {news:List Value} {es:Nat} {rows:List (List PV)} (x:RdN h V news es rows) (H:∀b,V b→V' b∧h'[b]? =h[b]?):RdN h' V' news es rows:=
 ⟨x.len,fun i row e=>⟨(x.row i row e).1,fun j p hj=>let ⟨u,h1,h2⟩:=(x.row i row e).2 j p hj;⟨u,h1,h2.mono H⟩⟩⟩
theorem RdN.append {h:Array Obj} {V:Nat→Prop} {l m:List Value} {es:Nat} {a b:List (List PV)} (x:RdN h V l es a) (y:RdN h V m es b):RdN h V (l++m) es (a++b):=by
 refine⟨by rw[List.length_append,List.length_append,x.len,y.len,Nat.add_mul],fun i row e=> ?_⟩
 by_cases hi:i<a.length
 ·rw[List.getElem?_append_left hi]at e
  obtain⟨h1,h2⟩:=x.row i row e
  refine⟨h1,fun j p hj=> ?_⟩
  obtain⟨u,h3,h4⟩:=h2 j p hj
  exact⟨u,by rw[List.getElem?_append_left (List.getElem?_eq_some_iff.1 h3).1];exact h3,h4⟩
 ·rw[List.getElem?_append_right (by omega)]at e
  obtain⟨h1,h2⟩:=y.row _ row e
  refine⟨h1,fun j p hj=> ?_⟩
  obtain⟨u,h3,h4⟩:=h2 j p hj
  refine⟨u,?_,h4⟩
  have:i*es=a.length*es+(i - a.length)*es:=by rw[←Nat.add_mul];congr 1;omega
  rw[List.getElem?_append_right (by rw[x.len];omega),x.len,←h3]
  congr 1;omega
theorem RdN.rows {h:Array Obj} {V:Nat→Prop} {news:List Value} {es:Nat} {rows:List (List PV)} (x:RdN h V news es rows) {c:Array Value} {off:Nat} (hc:∀(j:Nat) (u:Value),news[j]? =some u→c[off+j]? =some u):RdRows h V c off es rows:=
 RdRows.mk fun i row e=>⟨(x.row i row e).1,RdRow.mk fun j p hj=>by
  obtain⟨u,h1,h2⟩:=(x.row i row e).2 j p hj
  exact⟨u,by rw[←hc _ _ h1];congr 1;omega,h2⟩⟩
theorem RdN.one {h:Array Obj} {V:Nat→Prop} {news:List Value} {es:Nat} {rows:List (List PV)} (x:RdN h V news es rows):∀u∈news,u.oneCell'=true:=by
 intro u hu
 obtain⟨k,hk,e⟩:=List.getElem_of_mem hu
 have hes:0<es:=by
  rcases Nat.eq_zero_or_pos es with h0|h0
  ·have:=x.len;rw[h0]at this;omega
  ·exact h0
 have hi:k/es<rows.length:=by
  have:=x.len
  exact(Nat.div_lt_iff_lt_mul hes).2 (by omega)
 obtain⟨h1,h2⟩:=x.row (k/es) _ (List.getElem?_eq_getElem hi)
 have hj:k % es<rows[k/es].length:=by rw[h1];exact Nat.mod_lt _ hes
 obtain⟨y,h3,h4⟩:=h2 (k % es) _ (List.getElem?_eq_getElem hj)
 have:k/es*es+k % es=k:=by rw[Nat.mul_comm];exact Nat.div_add_mod k es
 rw[this,List.getElem?_eq_getElem hk]at h3
 injection h3 with h3
 rw[←e,h3]
 exact M7z h4
theorem Ovz {h:Array Obj} {V:Nat→Prop} {c:Array Value} {off es:Nat} {rows:List (List PV)} (x:RdRows h V c off es rows):∃news,RdN h V news es rows∧∀(j:Nat) (u:Value),news[j]? =some u→c[off+j]? =some u:=by
 refine⟨(c.toList.drop off).take (rows.length*es),⟨?_,fun i row e=> ?_⟩,fun j u e=> ?_⟩
 ·rw[List.length_take,List.length_drop]
  refine Nat.min_eq_left ?_
  rcases Nat.eq_zero_or_pos (rows.length*es)with h0|h0
  ·omega
  ·have hr:0<rows.length:=Nat.pos_of_ne_zero fun e=>by rw[e]at h0;simp at h0
   have hes:0<es:=Nat.pos_of_ne_zero fun e=>by rw[e]at h0;simp at h0
   obtain⟨h1,h2⟩:=x.get (rows.length - 1) _ (List.getElem?_eq_getElem (by omega))
   have hj:es - 1<(rows[rows.length - 1]'(by omega)).length:=by rw[h1];omega
   obtain⟨y,hy,_⟩:=h2.get (es - 1) _ (List.getElem?_eq_getElem hj)
   have hlt:=(Array.getElem?_eq_some_iff.1 hy).1
   have:rows.length*es=(rows.length - 1)*es+es:=by
    have:=Nat.succ_mul (rows.length - 1) es
    rw[show(rows.length - 1).succ=rows.length from by omega]at this
    exact this
   simp
   omega
 ·obtain⟨h1,h2⟩:=x.get i row e
  refine⟨h1,fun j p hj=> ?_⟩
  obtain⟨y,hy,hr⟩:=h2.get j p hj
  refine⟨y,?_,hr⟩
  have hi:=(List.getElem?_eq_some_iff.1 e).1
  have hjl:=(List.getElem?_eq_some_iff.1 hj).1
  have:(i+1)*es≤rows.length*es:=Nat.mul_le_mul_right _ hi
  rw[Nat.add_mul]at this
  rw[List.getElem?_take,if_pos (by omega),List.getElem?_drop,←hy]
  simp[Nat.add_assoc]
 ·rw[List.getElem?_take]at e
  split at e
  ·rw[List.getElem?_drop]at e
   simpa using e
  ·simp at e
structure ORdN (h:Array Obj) (V:Nat→Prop) (own:Nat→Option Own) (s p:Nat) (q:Path) (i0:Nat) (news:List Value) (es:Nat) (rows:List (List PV)):Prop where
 len:news.length=rows.length*es
 row:∀(i:Nat) (row:List PV),rows[i]? =some row→row.length=es∧∀(j:Nat) (x:PV),row[j]? =some x→∃v,news[i*es+j]? =some v∧ORd h V own s p (q++[(i0+i,j)]) v x
section
variable {h h':Array Obj} {V V':Nat→Prop} {own own':Nat→Option Own} {s p s' p':Nat} {q:Path} {i0 es:Nat}
theorem RdN.asO {news:List Value} {rows:List (List PV)} (x:RdN h V news es rows):ORdN h V own s p q i0 news es rows:=
 ⟨x.len,fun i row e=>⟨(x.row i row e).1,fun j p hj=>let ⟨u,h1,h2⟩:=(x.row i row e).2 j p hj;⟨u,h1,.rd _ _ _ h2⟩⟩⟩
theorem ORdN.mono {news:List Value} {rows:List (List PV)} (x:ORdN h V own s p q i0 news es rows) (HV:∀b,V b→V' b∧h'[b]? =h[b]?) (HO:∀b q base tip,own b=some (s,p,q,base,tip)→own' b=some (s',p',q,base,tip)∧h'[b]? =h[b]?):ORdN h' V' own' s' p' q i0 news es rows:=
 ⟨x.len,fun i row e=>⟨(x.row i row e).1,fun j p hj=>let ⟨u,h1,h2⟩:=(x.row i row e).2 j p hj;⟨u,h1,h2.mono HV HO⟩⟩⟩
theorem ORdN.nil:ORdN h V own s p q i0 [] es []:=⟨by simp,fun i row e=>by simp at e⟩
theorem ORdN.append {l m:List Value} {a b:List (List PV)} (x:ORdN h V own s p q i0 l es a) (y:ORdN h V own s p q (i0+a.length) m es b):ORdN h V own s p q i0 (l++m) es (a++b):=by
 refine⟨by rw[List.length_append,List.length_append,x.len,y.len,Nat.add_mul],fun i row e=> ?_⟩
 by_cases hi:i<a.length
 ·rw[List.getElem?_append_left hi]at e
  obtain⟨h1,h2⟩:=x.row i row e
  refine⟨h1,fun j p hj=> ?_⟩
  obtain⟨u,h3,h4⟩:=h2 j p hj
  exact⟨u,by rw[List.getElem?_append_left (List.getElem?_eq_some_iff.1 h3).1];exact h3,h4⟩
 ·rw[List.getElem?_append_right (by omega)]at e
  obtain⟨h1,h2⟩:=y.row _ row e
  refine⟨h1,fun j p hj=> ?_⟩
  obtain⟨u,h3,h4⟩:=h2 j p hj
  rw[show i0+a.length+(i - a.length)=i0+i from by omega]at h4
  refine⟨u,?_,h4⟩
  have:i*es=a.length*es+(i - a.length)*es:=by rw[←Nat.add_mul];congr 1;omega
  rw[List.getElem?_append_right (by rw[x.len];omega),x.len,←h3]
  congr 1;omega
theorem ORdN.rows {news:List Value} {rows:List (List PV)} (x:ORdN h V own s p q i0 news es rows) {c:Array Value} {off:Nat} (hc:∀(j:Nat) (u:Value),news[j]? =some u→c[off+j]? =some u):ORows h V own s p q i0 c off es rows:=
 ORows.mk fun i row e=>⟨(x.row i row e).1,ORow.mk fun j p hj=>by
  obtain⟨u,h1,h2⟩:=(x.row i row e).2 j p hj
  exact⟨u,by rw[←hc _ _ h1];congr 1;omega,by simpa using h2⟩⟩
theorem ORd.one1 {q:Path} {v:Value} {x:PV} (h:ORd h V own s p q v x):v.oneCell'=true:=by
 cases h with
 |rd _ _ _ h=>exact M7z h
 |o0=>rfl
 |o=>rfl
theorem ORdN.one {news:List Value} {rows:List (List PV)} (x:ORdN h V own s p q i0 news es rows):∀u∈news,u.oneCell'=true:=by
 intro u hu
 obtain⟨k,hk,e⟩:=List.getElem_of_mem hu
 have hes:0<es:=by
  rcases Nat.eq_zero_or_pos es with h0|h0
  ·have:=x.len;rw[h0]at this;omega
  ·exact h0
 have hi:k/es<rows.length:=by
  have:=x.len
  exact(Nat.div_lt_iff_lt_mul hes).2 (by omega)
 obtain⟨h1,h2⟩:=x.row (k/es) _ (List.getElem?_eq_getElem hi)
 have hj:k % es<rows[k/es].length:=by rw[h1];exact Nat.mod_lt _ hes
 obtain⟨y,h3,h4⟩:=h2 (k % es) _ (List.getElem?_eq_getElem hj)
 have:k/es*es+k % es=k:=by rw[Nat.mul_comm];exact Nat.div_add_mod k es
 rw[this,List.getElem?_eq_getElem hk]at h3
 injection h3 with h3
 rw[←e,h3]
 exact h4.one1
theorem F4z {c:Array Value} {off:Nat} {rows:List (List PV)} (x:ORows h V own s p q i0 c off es rows):∃news,ORdN h V own s p q i0 news es rows∧∀(j:Nat) (u:Value),news[j]? =some u→c[off+j]? =some u:=by
 refine⟨(c.toList.drop off).take (rows.length*es),⟨?_,fun i row e=> ?_⟩,fun j u e=> ?_⟩
 ·rw[List.length_take,List.length_drop]
  refine Nat.min_eq_left ?_
  rcases Nat.eq_zero_or_pos (rows.length*es)with h0|h0
  ·omega
  ·have hr:0<rows.length:=Nat.pos_of_ne_zero fun e=>by rw[e]at h0;simp at h0
   have hes:0<es:=Nat.pos_of_ne_zero fun e=>by rw[e]at h0;simp at h0
   obtain⟨h1,h2⟩:=x.get (rows.length - 1) _ (List.getElem?_eq_getElem (by omega))
   have hj:es - 1<(rows[rows.length - 1]'(by omega)).length:=by rw[h1];omega
   obtain⟨y,hy,_⟩:=h2.get (es - 1) _ (List.getElem?_eq_getElem hj)
   have hlt:=(Array.getElem?_eq_some_iff.1 hy).1
   have:rows.length*es=(rows.length - 1)*es+es:=by
    have:=Nat.succ_mul (rows.length - 1) es
    rw[show(rows.length - 1).succ=rows.length from by omega]at this
    exact this
   simp
   omega
 ·obtain⟨h1,h2⟩:=x.get i row e
  refine⟨h1,fun j p hj=> ?_⟩
  obtain⟨y,hy,hr⟩:=h2.get j p hj
  refine⟨y,?_,by simpa using hr⟩
  have hi:=(List.getElem?_eq_some_iff.1 e).1
  have hjl:=(List.getElem?_eq_some_iff.1 hj).1
  have:(i+1)*es≤rows.length*es:=Nat.mul_le_mul_right _ hi
  rw[Nat.add_mul]at this
  rw[List.getElem?_take,if_pos (by omega),List.getElem?_drop,←hy]
  simp[Nat.add_assoc]
 ·rw[List.getElem?_take]at e
  split at e
  ·rw[List.getElem?_drop]at e
   simpa using e
  ·simp at e
end
theorem Tgz {X:Ctx} {v:Value} {f:Bool} {es:Nat} {rows:List (List PV)} (r:Rd X.w.heap (X.V f) v (.s es rows)):
  (rows=[]∧∃a cap,v= .slice a 0 cap)∨∃(blk off cap:Nat) (cc:Array Value) (elem:TypeId) (fr:Nat×Nat),v= .slice (some ⟨blk,off,none⟩) rows.length cap∧rows.length≤cap∧X.w.heap[blk]? =some (.cells cc elem fr)∧RdRows X.w.heap (X.V f) cc off es rows:=by
 cases r with
 |s0 a cap _=>exact .inl ⟨rfl,a,cap,rfl⟩
 |s blk off n cap _ cc elem fr _ hv hb hn hc hr=>subst hn;exact .inr ⟨blk,off,cap,cc,elem,fr,rfl,hc,hb,hr⟩
theorem HOz {X:Ctx} {k j:Nat} {v:Value} {s o:Nat} {q:Path} {kd lo:Nat} {f:Bool} {es:Nat} {rows:List (List PV)} (h:CVRel X k j v (.br s o q kd lo f es rows)):
  (rows=[]∧∃a cap,v= .slice a 0 cap)∨∃(blk off cap:Nat) (cc:Array Value) (elem:TypeId) (fr:Nat×Nat),v= .slice (some ⟨blk,off,none⟩) rows.length cap∧rows.length≤cap∧X.w.heap[blk]? =some (.cells cc elem fr)∧X.ORows f s o q lo cc off es rows:=by
 cases h with
 |br0 _ _ _ _ _ _ _ a=>exact .inl ⟨rfl,a,0,rfl⟩
 |br _ _ _ _ _ _ _ _ _ blk base tip cap c elem fr h=>exact .inr ⟨blk,_,cap,c,elem,fr,h.val,h.le,h.cells,h.reads⟩
 |brv _ _ _ _ _ _ _ _ h=>
  cases h with
  |s0 a cap=>exact .inl ⟨rfl,a,cap,rfl⟩
  |s blk off n cap c elem fr _ hv hb hn hc hr=>subst hn;exact .inr ⟨blk,off,cap,c,elem,fr,rfl,hc,hb,hr⟩
theorem DRz {P:Program} {w:World} {size n cap blk off:Nat} {c:Array Value} {elem:TypeId} {fr:Nat×Nat} (hb:w.heap[blk]? =some (.cells c elem fr)) {news:List Value} (hl:news.length=n*size) (h:∀(j:Nat) (u:Value),news[j]? =some u→c[off+j]? =some u) (m:Nat):
  (Builtin.firstCells size n (.slice (some ⟨blk,off,none⟩) m cap)).run P w= .ok news.toArray w:=
 run_firstCells_some w size n ⟨blk,off,none⟩ m cap news hl fun j u e=>by rw[DMz,CWz hb];exact h j u e
theorem Baz {P:Program} {w:World} (size:Nat) (a:Option Addr) (m cap:Nat):(Builtin.firstCells size 0 (.slice a m cap)).run P w= .ok #[] w:=by
 cases a with
 |none=>exact run_firstCells_none w size 0 m cap
 |some a=>exact run_firstCells_some w size 0 a m cap [] (by simp) (by simp)
theorem S6z (h:Array Obj) (V:Nat→Prop) (s:ByteArray):RdN h V (byteCells s) 1 (BHz s):=by
 refine⟨by rw[byteCells_length,CPz,Nat.mul_one],fun i row e=> ?_⟩
 simp only[BHz,List.getElem?_map]at e
 obtain⟨x,h1,h2⟩:=AHz e
 subst h2
 refine⟨rfl,fun j p hj=> ?_⟩
 cases j with
 |succ j=>simp at hj
 |zero=>
  simp at hj;subst hj
  refine⟨.int .u8 x.toNat,?_,.i _ _⟩
  rw[Nat.mul_one,Nat.add_zero]
  simp only[byteCells,List.getElem?_map,h1]
  rfl
theorem RdN.plain {h:Array Obj} {V V':Nat→Prop} {news:List Value} {es:Nat} {rows:List (List PV)} (x:RdN h V news es rows) (hp:CFz rows=true):RdN h V' news es rows:=
 ⟨x.len,fun i row e=>⟨(x.row i row e).1,fun j p hj=>by
  obtain⟨u,h1,h2⟩:=(x.row i row e).2 j p hj
  refine⟨u,h1,?_⟩
  have hs:p.scalar=true:=by
   unfold CFz at hp
   rw[List.all_eq_true]at hp
   exact List.all_eq_true.1 (hp row (List.mem_of_getElem? e)) p (List.mem_of_getElem? hj)
  cases h2 with
  |i k n=>exact .i k n
  |b y=>exact .b y
  |t y=>exact .t y
  |s0 _ _ _=>simp[PV.scalar]at hs
  |s _ _ _ _ _ _ _ _ _ _ _ _ _ _=>simp[PV.scalar]at hs
  |x _ _ _=>simp[PV.scalar]at hs⟩⟩
theorem Nlz {T:Tys} {e:TypeId} {f g:Bool} {h:Array Obj} {V:Bool→Nat→Prop} {news:List Value} {es:Nat} {rows:List (List PV)} (hk:FQz T e f rows=some g) (x:RdN h (V f) news es rows):RdN h (V g) news es rows:=by
 unfold FQz at hk
 split at hk
 ·split at hk
  ·split at hk
   ·rename_i hp;injection hk with hk;subst hk;exact x.plain hp
   ·cases hk
  ·injection hk with hk;subst hk;exact x
 ·injection hk with hk;subst hk;exact x
theorem Wvz {P:Program} {T:Tys} (hT:TOk P T) {X:Ctx} {v:Value} {y:SV} (hy:OSV X v y) {e u:TypeId} {es:Nat} (hu:((T.sl u).isSome||T.str u)=true) {i:TypeInfo} (hi:i.size=es) {f:Bool} {rows:List (List PV)} (h:HKz T e es y=some (f,rows)):
  ∃news,Src P i.size u v rows.length news X.w∧RdN X.w.heap (X.V f) news es rows:=by
 have hk:(∃e',P.underlying u=some (.slice e'))∨P.underlying u=some .string:=by
  rw[Bool.or_eq_true]at hu
  rcases hu with hu|hu
  ·obtain⟨e',he⟩:=Option.isSome_iff_exists.1 hu
   exact .inl ⟨e',hT.sl u e' he⟩
  ·exact .inr (hT.str u hu)
 have fin:∀{f:Bool} {rows:List (List PV)} {es0:Nat},(es0=es∨rows=[])→((rows=[]∧∃a cap,v= .slice a 0 cap)∨∃(blk off cap:Nat) (cc:Array Value) (elem:TypeId) (fr:Nat×Nat),v= .slice (some ⟨blk,off,none⟩) rows.length cap∧rows.length≤cap∧X.w.heap[blk]? =some (.cells cc elem fr)∧RdRows X.w.heap (X.V f) cc off es0 rows)→
   ∃news,Src P i.size u v rows.length news X.w∧RdN X.w.heap (X.V f) news es rows:=fun{f rows es0} hcond hs=>by
  rcases hs with⟨e3,a,cap,e4⟩|⟨blk,off,cap,cc,elem,fr,e4,hle,hb,hr⟩
  ·subst e3;subst e4
   exact⟨[],⟨hk,fun _=>rfl,Baz _ _ _ _,Baz _ _ _ _,by simp,fun _ h=>by simp at h⟩,⟨by simp,fun i row e=>by simp at e⟩⟩
  ·subst e4
   rcases hcond with e5|e5
   ·subst e5
    obtain⟨news,h3,h4⟩:=Ovz hr
    exact⟨news,⟨hk,fun _=>rfl,DRz hb (by rw[hi];exact h3.len) h4 _,DRz (w:=X.w.drew) hb (by rw[hi];exact h3.len) h4 _,by rw[hi];exact h3.len,h3.one⟩,h3⟩
   ·subst e5
    exact⟨[],⟨hk,fun _=>rfl,Baz _ _ _ _,Baz _ _ _ _,by simp,fun _ h=>by simp at h⟩,⟨by simp,fun i row e=>by simp at e⟩⟩
 unfold HKz at h
 split at h
 ·rename_i s0 o0 q0 kd0 lo0 f0 es0 rows0 hc
  obtain⟨h1,h2⟩:=FJz hy hc
  split at h
  ·rename_i hcond
   obtain⟨g,hk',h⟩:=Option.map_eq_some_iff.1 h
   injection h with e1 e2;subst e1;subst e2
   suffices H:∃news,Src P i.size u v rows0.length news X.w∧RdN X.w.heap (X.V f0) news es rows0 by
    obtain⟨news,k1,k2⟩:=H
    exact⟨news,k1,Nlz (V:=X.V) hk' k2⟩
   refine fin hcond.2 ?_
   rcases HOz (h1 0)with h3|⟨blk,off,cap,cc,elem,fr,e4,hle,hb,hr⟩
   ·exact .inl h3
   ·exact .inr ⟨blk,off,cap,cc,elem,fr,e4,hle,hb,hr.flat hcond.1⟩
  ·simp at h
 ·rename_i c hno hc
  obtain⟨h1,h2⟩:=FJz hy hc
  split at h
  ·rename_i f0 s hp
   split at h
   ·rename_i hcond
    injection h with h;injection h with e1 e2;subst e1;subst e2
    obtain⟨V,hr⟩:=p_rd (h1 0) hp
    cases hr with
    |t _=>
     refine⟨byteCells s,⟨hk,fun _=> ?_,?_,?_,by rw[byteCells_length,CPz,hi,hcond.1,Nat.mul_one],fun u hu=>by obtain⟨_,_,rfl⟩:=List.mem_map.1 hu;rfl⟩,by rw[hcond.1];exact S6z _ _ s⟩
     ·rw[CPz];rfl
     ·rw[hi,hcond.1,CPz];exact firstCells_string s _
     ·rw[hi,hcond.1,CPz];exact firstCells_string s _
   ·simp at h
  ·rename_i f0 es0 rows0 hp
   split at h
   ·rename_i hcond
    obtain⟨g,hk',h⟩:=Option.map_eq_some_iff.1 h
    injection h with e1 e2;subst e1;subst e2
    suffices H:∃news,Src P i.size u v rows0.length news X.w∧RdN X.w.heap (X.V f0) news es rows0 by
     obtain⟨news,k1,k2⟩:=H
     exact⟨news,k1,Nlz (V:=X.V) hk' k2⟩
    refine fin hcond ?_
    cases c with
    |sh f1 p1=>
     simp only[CV.p?]at hp
     injection hp with hp;injection hp with e1 e2;subst e1;subst e2
     have:=h1 0
     cases this with|sh _ _ _ h3=>exact Tgz h3
    |ow f1 es1 rows1=>
     obtain⟨e3,a,e4⟩:=Dvz fun k=>h1 k
     subst e3
     simp only[CV.p?,Adz]at hp
     injection hp with hp;injection hp with e1 e2;injection e2 with e2 e3;subst e3
     exact .inl ⟨rfl,a,0,e4⟩
    |br s1 o1 q1 kd1 lo1 f1 es1 rows1=>exact absurd rfl (hno _ _ _ _ _ _ _ _)
    |dead=>simp[CV.p?]at hp
   ·simp at h
  ·simp at h
 ·simp at h
theorem U4z {P:Program} {T:Tys} (hT:TOk P T) {X:Ctx} {vs:List Value} {σ σ':St} {E:Nat→Nat→Prop} (hg:Good X vs σ E) {t ty:TypeId} {x:SV} {xv:Value} (hx:OSV X xv x) (h:H0z T σ t x=some σ'):
  ∃X',(Builtin.clear_ #[t] ty #[xv]).run P X.w= .ok (.tuple #[]) X'.w∧Goes X X'∧Good X' vs σ' E:=by
 unfold H0z at h
 split at h
 case h_2=>simp at h
 rename_i p s o q kd lo f es rows hz hc
 obtain⟨e,hsl,hzr⟩:=AAz hz
 obtain⟨h1,_⟩:=FJz hx hc
 have hu:=hT.sl t e hsl
 obtain⟨v0,hr,hcells,hp⟩:=Exz (w:=X.w) hT hzr
 split at h
 ·rename_i h0
  injection h with h;subst h
  have hr0:rows=[]:=List.length_eq_zero_iff.1 h0
  subst hr0
  have:∃a cap,xv= .slice a 0 cap:=by
   rcases HOz (h1 0)with⟨_,a,cap,h3⟩|⟨blk,off,cap,cc,elem,fr,e4,hle,hb,hr⟩
   ·exact⟨a,cap,h3⟩
   ·exact⟨_,cap,e4⟩
  obtain⟨a,cap,rfl⟩:=this
  refine⟨X,?_,.refl X,hg⟩
  cases a<;>simp[Builtin.clear_,A9z hu]
 rename_i h0
 split at h
 case isFalse=>simp at h
 rename_i hk
 obtain⟨⟨f0,es0,rows0⟩,hat,h'⟩:=AAz h
 clear h
 simp only at h'
 split at h'
 case isFalse=>simp at h'
 rename_i hcond
 obtain⟨rfl,rfl,hflat,hle⟩:=hcond
 injection h' with h';subst h'
 have hps:p.scalar=true:=hk.1
 cases h1 0 with
 |br0 _ _ _ _ _ _ _ a=>exact absurd rfl h0
 |brv=>omega
 |br _ _ _ _ _ _ _ _ _ blk base tip cap c elem fr hw=>
  obtain⟨v1,hv1⟩:=Iqz hg hat
  cases hv1 with
  |rd _ _ _ h=>cases h
  |o0=>have h9:lo+rows.length≤0:=hle;omega
  |o _ blk1 off1 nn cap1 _ c1 elem1 fr1 _ ho hb hnn hcap hfits hl hrr=>
   have e1:blk1=blk:=hg.inv.one _ _ _ _ _ _ _ _ _ ho hw.own
   subst e1
   have e2:=hw.own.symm.trans ho
   injection e2 with e2;injection e2 with _ e2;injection e2 with _ e2;injection e2 with _ e2;injection e2 with e2 e3
   subst e2;subst e3
   have hv0:v0.cells= #[p.val]:=by apply Array.ext';simpa using hcells
   have hone:p.val.oneCell'=true:=by cases p<;>first|rfl|simp[PV.scalar]at hps
   have hzc:(Builtin.zeroCells v0.cells rows.length).toList=List.replicate rows.length p.val:=by
    rw[hv0]
    simp[Builtin.zeroCells]
    apply List.ext_getElem
    ·simp
    ·intro i h1 h2
     simp[Nat.mod_one]
   rw[Nat.mul_one]at hfits
   have hfit:base+lo+(List.replicate rows.length p.val).length≤c1.size:=by
    rw[List.length_replicate];omega
   obtain⟨w',c',hrun,hwr,hcc⟩:=IJz (P:=P) (w:=X.w) (b:=blk1) (o:=base+lo) hb hl (vs:=List.replicate rows.length p.val) hfit (fun v hv=>by rw[List.eq_of_mem_replicate hv];exact hone)
   have hget:=H1z hcc hfit
   have hsz:c'.size=c1.size:=by
    have:=congrArg List.length hcc
    simp only[List.length_append,List.length_take,List.length_drop,Array.length_toList,List.length_replicate]at this hfit
    omega
   have hV:∀fl b,X.V fl b→(X.turned w').V fl b∧w'.heap[b]? =X.w.heap[b]? :=fun fl b hb=>EJz hg.inv hwr ho fl b hb
   have hrd:=(hrr.flat hflat).mono (h':=w'.heap) (V':=(X.turned w').V f0) (hV f0)
   have hrows:RdRows w'.heap ((X.turned w').V f0) c' base 1 (rows0.take lo++List.replicate rows.length [p]++rows0.drop (lo+rows.length)):=RdRows.mk fun i row hi=>by
    by_cases hi1:i<lo
    ·rw[List.append_assoc,List.getElem?_append_left (by simp;omega),List.getElem?_take,if_pos hi1]at hi
     obtain⟨g1,g2⟩:=hrd.get i row hi
     refine⟨g1,RdRow.mk fun j x hj=> ?_⟩
     have hjl:=(List.getElem?_eq_some_iff.1 hj).1
     rw[hget,if_pos (by omega)]
     exact g2.get j x hj
    ·by_cases hi2:i<lo+rows.length
     ·rw[List.getElem?_append_left (by simp;omega),List.getElem?_append_right (by simp;omega)]at hi
      have hlt:min lo rows0.length=lo:=by omega
      rw[List.length_take,hlt,List.getElem?_replicate,if_pos (by omega)]at hi
      injection hi with hi;subst hi
      refine⟨rfl,RdRow.mk fun j x hj=> ?_⟩
      have hjl:=(List.getElem?_eq_some_iff.1 hj).1
      have hj0:j=0:=by simp at hjl;exact hjl
      subst hj0
      simp at hj;subst hj
      rw[hget,if_neg (by omega),if_pos (by simp;omega)]
      refine⟨p.val,?_,?_⟩
      ·rw[List.getElem?_replicate,if_pos (by omega)]
      ·cases p<;>first|(simp[PV.scalar]at hps;done)|exact Rd.i _ _|exact Rd.b _|exact Rd.t _
     ·rw[List.getElem?_append_right (by simp;omega)]at hi
      have hll:(rows0.take lo++List.replicate rows.length [p]).length=lo+rows.length:=by simp;omega
      rw[hll,List.getElem?_drop,show lo+rows.length+(i - (lo+rows.length))=i from by omega]at hi
      obtain⟨g1,g2⟩:=hrd.get i row hi
      refine⟨g1,RdRow.mk fun j x hj=> ?_⟩
      rw[hget,if_neg (by omega),if_neg (by simp;omega)]
      exact g2.get j x hj
   obtain⟨G,hgood⟩:=FZz hg hwr ho hb hsz (f':=f0) hat (rows':=rows0.take lo++List.replicate rows.length [p]++rows0.drop (lo+rows.length)) (by simp;omega) (hrows.asO q 0)
   refine⟨_,?_,G,hgood⟩
   have hval:=hw.val
   simp only[Nat.mul_one]at hval
   obtain⟨m,hm⟩:∃m,rows.length=m+1:=⟨rows.length - 1,by omega⟩
   rw[←hzc]at hrun
   rw[hval]
   rw[hm]at hrun ⊢
   simp only[Builtin.clear_,List.getElem?_toArray,List.getElem?_cons_zero,Sem.run_bind,A9z hu,Result.andThen_ok,Sem.run_pure,hr,hrun]
   rfl
end Go.Proofs.YtblelojdboefjaaGreatDoor.R
