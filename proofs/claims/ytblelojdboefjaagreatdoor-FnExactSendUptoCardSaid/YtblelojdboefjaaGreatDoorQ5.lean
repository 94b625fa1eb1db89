/- append. -/
import Derived.Test.YtblelojdboefjaaGreatDoorQ4
set_option linter.all false
namespace Go.Proofs.YtblelojdboefjaaGreatDoor.R
open Go
def appT (s o:Nat) (q:Path) (d lo n:Nat) (r:Option Own):Path→Nat→Nat→Option Own:=fun p base tip=>
 match strip q p with
 |none=>some (s,o+1,p,base,tip)
 |some []=>r
 |some ((i,j)::r')=>if lo≤i∧i<lo+n then some (d,1,(i - lo,j)::r',base,tip)else none
theorem DBz {s o:Nat} {q:Path} {d lo n:Nat} {r:Option Own} {p:Path} {base tip:Nat} {t:Own} (h:appT s o q d lo n r p base tip=some t):
  (q≠[]∧(∀r',p≠q++r')∧t=(s,o+1,p,base,tip))∨(p=q∧r=some t)∨∃i j r',p=q++(i,j)::r'∧lo≤i∧i<lo+n∧t=(d,1,(i - lo,j)::r',base,tip):=by
 unfold appT at h
 split at h
 ·rename_i hs
  injection h with h
  refine .inl ⟨fun e=> ?_,fun r'=>KCz hs,h.symm⟩
  subst e;simp[strip]at hs
 ·rename_i hs
  exact .inr (.inl ⟨by simpa using CBz hs,h⟩)
 ·rename_i i j r' hs
  split at h
  ·rename_i hc
   injection h with h
   exact .inr (.inr ⟨i,j,r',CBz hs,hc.1,hc.2,h.symm⟩)
  ·simp at h
theorem Usz {s o:Nat} {q:Path} {d lo n:Nat} {r:Option Own} {i j:Nat} {r':Path} {base tip:Nat} (h:i<n):appT s o q d lo n r (q++[(lo+i,j)]++r') base tip=some (d,1,(i,j)::r',base,tip):=by
 unfold appT
 rw[List.append_assoc,Caz]
 simp only[List.cons_append,List.nil_append]
 rw[if_pos ⟨by omega,by omega⟩]
 simp
theorem Isz {s o:Nat} {q:Path} {d lo n:Nat} {r:Option Own} {base tip:Nat}:appT s o q d lo n r q base tip=r:=by
 unfold appT
 rw[Fcz]
def Pre (X:Ctx) (σ:St) (d n:Nat):Prop:=(∀b p q base tip,X.own b=some (d,p,q,base,tip)→p=1∧∃i j r,q=(i,j)::r∧n≤i)∧(∀p,(ABz σ d p).isOw=false)∧(∀l,σ[d]? ≠some (.c .box l))
theorem Poz {X:Ctx} (hi:Inv X) {σ:St} {s o:Nat} {q:Path} {d lo n:Nat} {r:Option Own} (hb:Pre X σ d n) (hsd:s≠d) (hr:∀t,r=some t→t.1=d∧t.2.1=1∧t.2.2.1=[]):Inv (X.retag s o (appT s o q d lo n r) False)∧∀Q,Inv (X.retag s o (appT s o q d lo n r) Q):=by
 have:∀Q,Inv (X.retag s o (appT s o q d lo n r) Q):=fun Q=>by
  refine hi.retag (fun p base tip s1 p1 q1 base1 tip1 h hn b base2 tip2 hb2=> ?_) fun b1 b2 q1 base1 tip1 q2 base2 tip2 s1 p1 q3 base3 tip3 base4 tip4 _ _ h1 h2=> ?_
  ·rcases DBz h with⟨_,_,e⟩|⟨_,e⟩|⟨i,j,r',_,hlo,hhi,e⟩
   ·injection e with e1 e;injection e with e2 _
    exact hn ⟨e1,e2⟩
   ·have:=hr _ e
    simp only at this
    obtain⟨e1,e2,e3⟩:=this
    subst e1;subst e3
    obtain⟨_,i,j,r,e4,_⟩:=hb.1 _ _ _ _ _ hb2
    simp at e4
   ·injection e with e1 e;injection e with e2 e;injection e with e3 _
    subst e1;subst e3
    obtain⟨_,i',j',r2,e4,hle⟩:=hb.1 _ _ _ _ _ hb2
    simp at e4
    omega
  ·have hd:∀{p:Path} {base tip:Nat} {t:Own},appT s o q d lo n r p base tip=some t→t.1=s→t=(s,o+1,p,base,tip):=fun{p base tip t} h e=>by
    rcases DBz h with⟨_,_,e1⟩|⟨_,e1⟩|⟨i,j,r',_,_,_,e1⟩
    ·exact e1
    ·have:=(hr _ e1).1
     exact absurd (e.symm.trans this) hsd
    ·subst e1;exact absurd e.symm hsd
   rcases DBz h1 with⟨_,_,e1⟩|⟨g1,e1⟩|⟨i,j,r1,g1,hlo1,_,e1⟩
   ·have e0:s1=s:=by injection e1
    have e2:=hd h2 e0
    injection e1 with _ e1;injection e1 with _ e1;injection e1 with e1 _
    injection e2 with _ e2;injection e2 with _ e2;injection e2 with e2 _
    rw[←e1,←e2]
   ·rcases DBz h2 with⟨_,_,e2⟩|⟨g2,e2⟩|⟨i2,j2,r2,g2,hlo2,_,e2⟩
    ·have e0:s1=s:=by injection e2
     have e3:=hd h1 e0
     injection e2 with _ e2;injection e2 with _ e2;injection e2 with e2 _
     injection e3 with _ e3;injection e3 with _ e3;injection e3 with e3 _
     rw[←e3,←e2]
    ·rw[g1,g2]
    ·have h3:=(hr _ e1).2.2
     simp only at h3
     injection e2 with _ e2;injection e2 with _ e2;injection e2 with e2 _
     rw[h3]at e2;simp at e2
   ·rcases DBz h2 with⟨_,_,e2⟩|⟨g2,e2⟩|⟨i2,j2,r2,g2,hlo2,_,e2⟩
    ·have e0:s1=s:=by injection e2
     have e3:=hd h1 e0
     injection e2 with _ e2;injection e2 with _ e2;injection e2 with e2 _
     injection e3 with _ e3;injection e3 with _ e3;injection e3 with e3 _
     rw[←e3,←e2]
    ·have h3:=(hr _ e2).2.2
     simp only at h3
     injection e1 with _ e1;injection e1 with _ e1;injection e1 with e1 _
     rw[h3]at e1;simp at e1
    ·injection e1 with _ e1;injection e1 with _ e1;injection e1 with e1 _
     injection e2 with _ e2;injection e2 with _ e2;injection e2 with e2 _
     have e3:=e1.symm.trans e2
     simp at e3
     obtain⟨⟨h3,h4⟩,h5⟩:=e3
     rw[g1,g2,←h4,←h5,show i=i2 from by omega]
 exact⟨this False,this⟩
def Cnz (s o:Nat) (q:Path) (d kd m:Nat) (σ:St):St:=
 match q with
 |[]=>if kd=0 then move s o d 0 (some m) σ else off s o σ
 |a::q=>modS s o (a::q) toX false σ
theorem MCz (s o:Nat) (q:Path) (d kd es:Nat) (σ:St):(Cnz s o q d kd es σ).length=σ.length:=by
 unfold Cnz
 split
 ·split<;>exact Arz _ _ _ _
 ·exact Arz _ _ _ _
theorem MBz {X:Ctx} {σ:St} {E:Nat→Nat→Prop} {d:Nat} (hE:∀a b,E a b→a=d∧b=0) (h:TagsE X σ E) {s o:Nat} {q:Path} {lo n kd es:Nat} {r:Option Own} {Q:Prop} (hr:∀t,r=some t→t.1=d∧t.2.1=1∧t.2.2.1=[]):TagsE (X.retag s o (appT s o q d lo n r) Q) (Cnz s o q d kd es σ) (fun a b=>a=d∧b=0):=by
 have hT:∀(K:Prop),(q≠[]→K)→∀p base tip t,appT s o q d lo n r p base tip=some t→(t.1=d∧t.2.1=0+1)∨(t.1=s∧t.2.1=o+1∧K):=fun K hK p base tip t ht=>by
  rcases DBz ht with⟨hq,_,e⟩|⟨_,e⟩|⟨i,j,r',_,_,_,e⟩
  ·subst e;exact .inr ⟨rfl,rfl,hK hq⟩
  ·have:=hr _ e;exact .inl ⟨this.1,this.2.1⟩
  ·subst e;exact .inl ⟨rfl,rfl⟩
 have weak:∀{σ':St},TagsE (X.retag s o (appT s o q d lo n r) Q) σ' (fun a b=>E a b∨(a=d∧b=0))→TagsE (X.retag s o (appT s o q d lo n r) Q) σ' (fun a b=>a=d∧b=0):=fun h=>⟨fun b s p q base tip hb=>(h.cell b s p q base tip hb).imp (fun h=>h.elim (hE _ _) id) id,h.box⟩
 refine weak ?_
 unfold Cnz
 split
 ·split
  ·exact DEz h (F9z s o d 0 (some es)) (fun k j c hc hn=>SAz hc hn) (hT _ fun h=>absurd rfl h)
  ·exact DEz h (C7z s o) (fun k j c hc hn=>Iyz hc hn) (hT _ fun h=>absurd rfl h)
 ·rename_i a q
  refine DEz h (IWz s o _ toX false) (fun k j c hc hn=>Vbz hc hn) (hT _ fun _ c hc=> ?_)
  cases c with
  |ow f es rows=>simp only[modC,and_self,if_true];exact ISz _ _ _ _ _ _
  |_=>simp[CV.isOw]at hc
theorem SKz {X:Ctx} {s o:Nat} {q:Path} {d lo n kd es:Nat} {vs:List Value} {σ:St} (h:Frame X vs σ):Frame (X.retag s o (appT s o q d lo n none) True) vs (Cnz s o q d kd es σ):=by
 unfold Cnz
 split
 ·split
  ·refine h.map (AOz.maps (fun k j c h1 h2=>Jkz h1 h2) (fun _ _ _ h=>Ihz h) ?_ ?_ ?_)
   ·intro v f es1 rows hv
    simp only[mvC,and_self,if_true]
    split
    ·rename_i hc
     cases hv with
     |ow0 _ _ a=>exact .br0 d 0 [] 2 0 f es1 a
     |ow _ _ _ _ blk off cap c elem fr hw=>
      rw[hw.val]
      exact .brv d 0 [] 0 f es1 rows _ (.s blk off _ cap c elem fr _ (EQz trivial Isz f hw.own) hw.cells rfl hw.le (((hw.reads.flat hc.2).mono (AOz.V f)).asO [] 0))
    ·exact .dead v
   ·intro k j v p kd1 lo1 f es1 rows hv
    simp only[mvC,and_self,if_true]
    cases p with
    |cons a p=>exact .dead v
    |nil=>
     simp only
     split
     ·rename_i hc
      cases hv with
      |br0 _ _ _ _ _ _ _ a=>exact .br0 d 0 [] 2 lo1 f es1 a
      |br _ _ _ _ _ _ _ _ _ blk base tip cap c elem fr hw=>
       rw[hw.val]
       exact .brv d 0 [] lo1 f es1 rows _ (.s blk _ _ cap c elem fr _ (EQz trivial Isz f hw.own) hw.cells rfl hw.le (((hw.reads.flat hc.2).mono (AOz.V f)).asO [] lo1))
      |brv _ _ _ _ _ _ _ _ hw=>
       refine .brv d 0 [] lo1 f es1 rows v ?_
       cases hw with
       |s0 a cap=>exact .s0 a cap
       |s blk off n cap c elem fr _ hv hb hn hc2 hr=>exact .s blk off n cap c elem fr _ (AOz.V f _ hv).1 hb hn hc2 (((hr.flat hc.2).mono (AOz.V f)).asO [] lo1)
     ·exact .dead v
   ·intro k v p kd fl es i f row h s' o' q' e1
    simp[epTo]at e1
  ·exact h.map (Jnz X s o _ True)
 ·rename_i a q
  refine h.map (HVz ⟨AOz,fun b q1 base tip ho hne=>⟨?_,rfl⟩,fun f v x hx=> .rd _ _ _ (.x v (C3z hx).1 (C3z hx).2)⟩)
  rw[Apz ho]
  unfold appT
  cases e:strip (a::q) q1 with
  |none=>rfl
  |some r=>exact absurd (CBz e) (hne r)
theorem Ojz {X:Ctx} {s o:Nat} {q:Path} {d lo n:Nat} {r:Option Own} {Q:Prop} {f:Bool} {es:Nat} {news:List Value} {rows:List (List PV)} (hn:rows.length≤n) (h:R.ORdN X.w.heap (X.V f) X.own s (o+1) q lo news es rows):
  R.ORdN (X.retag s o (appT s o q d lo n r) Q).w.heap ((X.retag s o (appT s o q d lo n r) Q).V f) (X.retag s o (appT s o q d lo n r) Q).own d 1 [] 0 news es rows:=
 ⟨h.len,fun i row e=>⟨(h.row i row e).1,fun j x hj=>by
  obtain⟨u,h1,h2⟩:=(h.row i row e).2 j x hj
  refine⟨u,h1,?_⟩
  have hi:=(List.getElem?_eq_some_iff.1 e).1
  have:=h2.turns (h':=X.w.heap) (V':=(X.retag s o (appT s o q d lo n r) Q).V f) (own':=(X.retag s o (appT s o q d lo n r) Q).own) (s':=d) (p':=1) (φ:=fun p=>[(i,j)]++p.drop (q.length+1)) (Ext:=fun p=>∃r',p=q++[(lo+i,j)]++r')
   ⟨fun p x ⟨r,hr⟩=>⟨r++[x],by rw[hr,List.append_assoc]⟩,fun p x ⟨r,hr⟩=>by
    have hl:(q++[(lo+i,j)]).length=q.length+1:=by simp
    rw[hr,←hl,List.append_assoc (q++[(lo+i,j)]),List.drop_left,List.drop_left,List.append_assoc],AOz.V f,fun b p base tip ⟨r',hr⟩ ho=>⟨by
    have hl:(q++[(lo+i,j)]).length=q.length+1:=by simp
    rw[Apz ho,hr,Usz (by omega),←hl,List.drop_left]
    rfl,rfl⟩⟩ ⟨[],by simp⟩
  have hl:(q++[(lo+i,j)]).length=q.length+1:=by simp
  rw[←hl,List.drop_length]at this
  simp only[List.append_nil]at this
  rw[Nat.zero_add]
  exact this⟩⟩
theorem FKz {X0 X X':Ctx} {vs:List Value} {σ:St} {d:Nat} (hg:Good X vs σ (fun a b=>a=d∧b=0)) (hG:Goes X0 X') (hm:Mono X X') (hi:Inv X') (hd:d<σ.length) (hnew:∀b t,X'.own b=some t→X.own b=some t∨(t.1=d∧t.2.1=1))
  (hpre:∀b p q base tip,X.own b=some (d,p,q,base,tip)→p=1) {v:Value} {f:Bool} {es:Nat} {rows:List (List PV)} (hv:CVRel X' d 0 v (.ow f es rows)):Eff X0 X' vs σ d v (.c .one [.ow f es rows]):=by
 have hna:∀cs,v≠ .agg cs:=Kzz hv (by simp)
 refine⟨hG,DIz hg (fun _ _ e=>e.1) hm hi hd (fun b t h=>(hnew b t h).imp id fun h=>h.1) (fun b q base tip h=> ?_) (.c .one _ [_] _ (.one _ hna) (.cons 0 _ _ _ _ hv (.nil 1))) (fun b p q base tip h=> ?_) fun b q base tip h=> ?_⟩
 ·have:=hpre _ _ _ _ _ h;omega
 ·have:p+1=1:=by
   rcases hnew b _ h with h1|h1
   ·exact hpre _ _ _ _ _ h1
   ·exact h1.2
  have:p=0:=by omega
  subst this
  rfl
 ·rcases hnew b _ h with h1|h1
  ·have:=hpre _ _ _ _ _ h1;omega
  ·have:=h1.2;simp at this
theorem LDz (z:Array Value) (n:Nat):(Builtin.zeroCells z n).size=n*z.size:=by simp[Builtin.zeroCells]
theorem JXz {P:Program} {T:Tys} (hT:TOk P T) {X0 X1:Ctx} (hG:Goes X0 X1) {w:World} (hw:X1.w=w) {vs:List Value} {σ:St} {d:Nat} (hg:Good X1 vs σ (fun a b=>a=d∧b=0)) (hpre:∀b p q base tip,X1.own b=some (d,p,q,base,tip)→p=1∧q≠[]) (hd:d<σ.length) {t u ty e:TypeId} {es bs:Nat} {z:List PV}
  (h1:T.sl t=some e) (h2:T.sz e=some es) (h3:T.byt e=some bs) (h4:T.zr e=some z) (hz:z.length=es) {base:Option Addr} {sCap:Nat} {f:Bool} {rows ys:List (List PV)} {olds news:List Value} {yv:Value} {i:TypeInfo} (hi:P.info? e=some i) (hsz:i.size=es) (hsrc:Src P i.size u yv ys.length news w)
  (hold:(Builtin.firstCells i.size rows.length (.slice base rows.length sCap)).run P w.drew= .ok olds.toArray w.drew) (ho:R.ORdN X1.w.heap (X1.V f) X1.own d 1 [] 0 olds es rows) (hn:R.ORdN X1.w.heap (X1.V f) X1.own d 1 [] rows.length news es ys) (hgr:sCap<rows.length+ys.length) (hlim:(rows.length+ys.length)*bs≤LIM) (hb0:ys.length+rows.length≤4611686018427387904):
  ∃v X',(Builtin.append_ #[t,u] ty #[.slice base rows.length sCap,yv]).run P w= .ok v X'.w∧Eff X0 X' vs σ d v (.c .one [.ow f es (rows++ys)]):=by
 obtain⟨i2,hi2,hby⟩:=hT.byt e bs h3
 obtain⟨i3,zv,hi3,hz1,hz2,_⟩:=hT.zr e z h4
 rw[hi]at hi2 hi3
 injection hi2 with hi2;injection hi3 with hi3
 subst hi2;subst hi3
 have hrun:=run_append_grow_src (P:=P) w t u ty e i zv (hT.sl t e h1) hi hz1 base rows.length sCap olds hold yv ys.length news hsrc hgr (by omega) (by
  refine growslice_fits hgr ?_
  rw[hby]
  exact Nat.le_trans hlim (by decide))
 have hge:=grownCap_ge w (rows.length+ys.length) sCap e
 have hzs:zv.cells.size=es:=by
  have:=congrArg List.length hz2
  simp[hz]at this
  exact this
 have hp:Pushes X1.w (w.drew.alloc (.cells ((olds++news).toArray++Builtin.zeroCells zv.cells (grownCap w (rows.length+ys.length) sCap e - (rows.length+ys.length))) e)) (.cells ((olds++news).toArray++Builtin.zeroCells zv.cells (grownCap w (rows.length+ys.length) sCap e - (rows.length+ys.length))) e (0,0)):=
  ⟨by rw[hw];rfl,by rw[hw];rfl,by rw[hw];rfl,by rw[hw];rfl⟩
 have hm:=FMz (t:=(d,1,[],0,(rows++ys).length)) hg.inv hp
 have hinv:=HYz (d:=d) (p:=1) (base:=0) (tip:=(rows++ys).length) hg.inv hp fun b base tip h=>(hpre _ _ _ _ _ h).2 rfl
 have hall:=ho.append (by simpa using hn)
 have hnew:CVRel (X1.made (w.drew.alloc (.cells ((olds++news).toArray++Builtin.zeroCells zv.cells (grownCap w (rows.length+ys.length) sCap e - (rows.length+ys.length))) e)) (d,1,[],0,(rows++ys).length)) d 0 (.slice (some ⟨X1.w.heap.size,0,none⟩) (rows++ys).length (grownCap w (rows.length+ys.length) sCap e)) (.ow f es (rows++ys)):=by
  refine .ow f es _ _ X1.w.heap.size 0 (grownCap w (rows.length+ys.length) sCap e) _ e (0,0) ⟨rfl,by simpa using hge,by simp[Ctx.made],hp.new,?_,Kmz _,?_⟩
  ·rw[Array.size_append,LDz,hzs]
   simp only[List.size_toArray,List.length_append,ho.len,hn.len]
   rw[←Nat.add_mul,←Nat.add_mul,Nat.zero_add]
   exact Nat.mul_le_mul_right _ (by omega)
  ·refine((hall.mono (hm.V f) (hm.ownP d 1)).rows fun j u h=> ?_)
   rw[Nat.zero_add,Array.getElem?_append_left (by have:=(List.getElem?_eq_some_iff.1 h).1;simpa using this)]
   simpa using h
 have he:=FKz hg (hG.trans (FNz hp)) hm hinv hd (fun b t h=>(ENz h).imp id fun e=>by rw[e];exact⟨rfl,rfl⟩) (fun b p q base tip h=>(hpre _ _ _ _ _ h).1) hnew
 refine⟨_,_,?_,he⟩
 rw[hrun]
 subst hw
 simp only[List.length_append]
 rfl
theorem PMz {P:Program} {T:Tys} (hT:TOk P T) {X:Ctx} {vs:List Value} {σ:St} {s o:Nat} {q:Path} {d kd lo:Nat} (hg:Good X vs σ (fun a b=>a=d∧b=0)) (hd:d<σ.length) (hsd:s≠d) {t u ty e:TypeId} {es:Nat}
    (h1:T.sl t=some e) {f fy:Bool} {rows ys:List (List PV)} (hb:Pre X σ d rows.length) {news:List Value} {xv yv:Value} {i:TypeInfo} (hi:P.info? e=some i) (hsz:i.size=es) (hsrc:Src P i.size u yv ys.length news X.w)
    {blk base tip cap:Nat} {c:Array Value} {elem:TypeId} {fr:Nat×Nat} (hbr:BrRel X s o q kd lo xv f es rows blk base tip cap c elem fr) (hkd:kd≤1) (hn:R.ORdN X.w.heap (X.V fy) X.own d 1 [] rows.length news es ys) (hroom:rows.length+ys.length≤cap) {m:Nat} (hm:m=es+1∨m=0):
    ∃v X',(Builtin.append_ #[t,u] ty #[xv,yv]).run P X.w= .ok v X'.w∧Eff X X' vs (Cnz s o q d kd m σ) d v (.c .one [.ow (f||fy) es (rows++ys)]):=by
  have hi0:=hg.inv
  have htip:=hbr.tip1 hkd
  have hnl:news.length=ys.length*es:=hn.len
  have hmul:(rows.length+ys.length)*es≤cap*es:=Nat.mul_le_mul_right _ hroom
  rw[Nat.add_mul]at hmul
  have hfits:=hbr.fits
  have hfit2:base+lo*es+rows.length*es+news.length≤c.size:=by rw[hnl];omega
  have hplace:base+lo*es+rows.length*es=base+tip*es:=by rw[←htip,Nat.add_mul];omega
  obtain⟨c',hwr,hcc⟩:=Glz blk news (base+lo*es+rows.length*es) hbr.cells hfit2
  have hget:=H1z hcc hfit2
  have hcs:=J1z hcc hfit2
  have hrun:=run_append_room_src (P:=P) X.w t u ty e i (hT.sl t e h1) hi blk (base+lo*es) rows.length cap yv ys.length news hsrc hroom (fun j hj=>by
    rw[CWz hbr.cells,hsz,Array.getElem?_eq_getElem (by omega)];rfl) (fun j hj=>by
    have:=hbr.loose (base+lo*es+rows.length*i.size+j) (by rw[hsz];omega)
    simp only[World.frozen?,hbr.cells]
    simpa using this)
  rw[hsz]at hrun
  let rt:Option Own:=some (d,1,[],base+lo*es,rows.length+ys.length)
  have hrt:∀t,rt=some t→t.1=d∧t.2.1=1∧t.2.2.1=[]:=fun t ht=>by injection ht with ht;subst ht;exact⟨rfl,rfl,rfl⟩
  let Tg:=appT s o q d lo rows.length rt
  let X1:Ctx:=X.retag s o Tg False
  let X':Ctx:=X1.turned (X.w.setCells blk (base+lo*es+rows.length*es) news)
  have hwr':Wrote X1.w (X.w.setCells blk (base+lo*es+rows.length*es) news) blk c' elem fr:=hwr
  have hown1:X1.own blk=some (d,1,[],base+lo*es,rows.length+ys.length):=by
    show(X.retag s o Tg False).own blk=_
    rw[Apz hbr.own];exact Isz
  have hinv1:Inv X1:=(Poz hi0 hb hsd hrt).1
  have hinv:Inv X':=Fbz hinv1 hwr'.size
  have hG:Goes X X':=(CTz X s o Tg False).trans (Gnz hwr' hown1)
  have hVb:∀fl b,X.V fl b→X'.V fl b∧X'.w.heap[b]? =X.w.heap[b]? :=fun fl b hv=>by
    have h2:=(AOz (X:=X) (s:=s) (o:=o) (T:=Tg) (Q:=False)).V fl b hv
    have h3:=EJz hinv1 hwr' hown1 fl b h2.1
    exact⟨h3.1,h3.2⟩
  have helse:∀b,b≠blk→X'.w.heap[b]? =X.w.heap[b]? :=fun b hb=>hwr.else_ b hb
  have hNear:Near s o X X':=⟨hVb,fun b s' p q' base' tip' h hne=>by
    refine⟨BEz (T:=Tg) (Q:=False) h hne,helse b fun e=> ?_⟩
    subst e
    rw[hbr.own]at h
    injection h with h;injection h with e1 h;injection h with e2 _
    exact hne ⟨e1.symm,e2.symm⟩⟩
  have hout:∀b q1 base1 tip1,X.own b=some (s,o+1,q1,base1,tip1)→(∀r,q1≠q++r)→X'.own b=some (s,o+1,q1,base1,tip1)∧X'.w.heap[b]? =X.w.heap[b]? :=fun b q1 base1 tip1 h hne=>by
    refine⟨?_,helse b fun e=> ?_⟩
    · show(X.retag s o Tg False).own b=_
      rw[Apz h]
      show appT s o q d lo rows.length rt q1 base1 tip1=_
      unfold appT
      cases e:strip q q1 with
      |none=>rfl
      |some r=>exact absurd (CBz e) (hne r)
    · subst e
      rw[hbr.own]at h
      injection h with h;injection h with _ h;injection h with _ h;injection h with h _
      exact hne [] (by simp[h])
 
  have hkeep:∀{fl:Bool} {off:Nat} {rs:List (List PV)},off+rs.length*es≤base+tip*es→RdRows X.w.heap (X.V fl) c off es rs→RdRows X'.w.heap (X'.V fl) c' off es rs:=fun{fl off rs} hle hr=>by
    refine RdRows.mk fun i row he=> ?_
    obtain⟨g1,g2⟩:=hr.get i row he
    refine⟨g1,RdRow.mk fun j p hj=> ?_⟩
    obtain⟨y,hy,hyr⟩:=g2.get j p hj
    refine⟨y,?_,hyr.mono (hVb fl)⟩
    have hil:=(List.getElem?_eq_some_iff.1 he).1
    have hjl:=(List.getElem?_eq_some_iff.1 hj).1
    have:(i+1)*es≤rs.length*es:=Nat.mul_le_mul_right _ hil
    rw[Nat.add_mul]at this
    rw[hget,if_pos (by omega)]
    exact hy
 
  have hd1:∀b q1 base1 tip1,X1.own b=some (d,1,q1,base1,tip1)→q1≠[]→X'.w.heap[b]? =X1.w.heap[b]? :=fun b q1 base1 tip1 h hne=>helse b fun e=>by
    subst e
    rw[hown1]at h
    injection h with h;injection h with _ h;injection h with _ h;injection h with h _
    exact hne h.symm
  have hlift:∀{fl:Bool} {i0:Nat} {ns:List Value} {rs:List (List PV)},R.ORdN X1.w.heap (X1.V fl) X1.own d 1 [] i0 ns es rs→R.ORdN X'.w.heap (X'.V fl) X'.own d 1 [] i0 ns es rs:=fun{fl i0 ns rs} h=>⟨h.len,fun i row e=>⟨(h.row i row e).1,fun j x hj=>by
    obtain⟨u,h1,h2⟩:=(h.row i row e).2 j x hj
    refine⟨u,h1,?_⟩
    have:=h2.turns (h':=X'.w.heap) (V':=X'.V fl) (own':=X'.own) (s':=d) (p':=1) (φ:=id) (Ext:=fun p=>p≠[]) ⟨fun p x _=>by simp,fun _ _ _=>rfl,fun b hb=>EJz hinv1 hwr' hown1 fl b hb,fun b p base tip hp ho=>⟨ho,hd1 b p base tip ho hp⟩⟩ (by simp)
    exact this⟩⟩
  have hnew:X'.ORows (f||fy) d 0 [] 0 c' (base+lo*es) es (rows++ys):=by
    obtain⟨olds,ho,hoc⟩:=F4z hbr.reads
    have ho1:=hlift (Ojz (d:=d) (n:=rows.length) (r:=rt) (Q:=False) (Nat.le_refl _) ho)
    have hn1:R.ORdN X1.w.heap (X1.V fy) X1.own d 1 [] rows.length news es ys:=hn.mono (AOz.V fy) fun b q base tip ho=>⟨BEz ho fun e=>hsd e.1.symm,rfl⟩
    have hn2:=hlift hn1
    have ho3:R.ORdN X'.w.heap (X'.V (f||fy)) X'.own d 1 [] 0 olds es rows:=ho1.mono (fun b hb=>⟨V_or fy hb,rfl⟩) fun b q base tip ho=>⟨ho,rfl⟩
    have hn3:R.ORdN X'.w.heap (X'.V (f||fy)) X'.own d 1 [] (0+rows.length) news es ys:=by
      rw[Nat.zero_add]
      exact hn2.mono (fun b hb=>⟨Etz f hb,rfl⟩) fun b q base tip ho=>⟨ho,rfl⟩
    refine(ho3.append hn3).rows fun j u hj=> ?_
    by_cases hj2:j<olds.length
    · rw[List.getElem?_append_left hj2]at hj
      have:=hoc j u hj
      rw[ho.len]at hj2
      rw[hget,if_pos (by omega)]
      exact this
    · rw[List.getElem?_append_right (by omega)]at hj
      have hjl:=(List.getElem?_eq_some_iff.1 hj).1
      rw[ho.len]at hj hj2 hjl
      rw[hget,if_neg (by omega),if_pos (by omega),←hj]
      congr 1;omega
  have hframe:Frame X' vs (Cnz s o q d kd m σ):=by
    unfold Cnz
    cases q with
    |cons a q=>
      simp only
      exact hg.frame.map (HVz ⟨hNear,hout,fun f v x hx=> .rd _ _ _ (.x v (C3z hx).1 (C3z hx).2)⟩)
    |nil=>
      simp only
      have hbwAt:∀b0 bs0 tp0,X.own b0=some (s,o+1,[],bs0,tp0)→b0=blk∧bs0=base∧tp0=tip:=fun b0 bs0 tp0 h=>by
        have e1:=hi0.one _ _ _ _ _ _ _ _ _ h hbr.own
        subst e1
        have e2:=h.symm.trans hbr.own
        injection e2 with e2;injection e2 with _ e2;injection e2 with _ e2;injection e2 with _ e2;injection e2 with e2 e3
        exact⟨rfl,e2,e3⟩
      split
      · rename_i hk0
        have hlo:=hbr.lo0 hk0
        have hown2:X'.own blk=some (d,1,[],base,rows.length+ys.length):=by
          have:X1.own blk=_:=hown1
          rw[hlo,Nat.zero_mul,Nat.add_zero]at this
          exact this
        refine hg.frame.map (hNear.maps (fun k j c h1 h2=>Jkz h1 h2) (fun _ _ _ h=>Ihz h) ?_ ?_ ?_)
        · intro v f1 es1 rows1 hv
          simp only[mvC,and_self,if_true]
          split
          case isFalse=>exact .dead v
          rename_i hcond
          obtain⟨hes,hfl⟩:=hcond
          have hes:es1=es:=by omega
          subst hes
          cases hv with
          |ow0 _ _ a=>exact .br0 d 0 [] 2 0 f1 es1 a
          |ow _ _ _ _ blk1 off1 cap1 c1 elem1 fr1 hw=>
            obtain⟨e1,e2,e3⟩:=hbwAt _ _ _ hw.own
            subst e1;subst e2
            have e4:=hw.cells.symm.trans hbr.cells
            injection e4 with e4;injection e4 with e4 e5 e6
            subst e4;subst e5;subst e6
            refine .br d 0 [] 2 0 f1 es1 rows1 v blk1 off1 (rows.length+ys.length) cap1 c' elem1 fr1 ⟨by rw[hw.val];simp,hw.le,hown2,hwr.at_,by rw[hcs];simpa using hw.fits,by rw[hcs];exact hw.loose,by omega,fun h=>by omega,fun _=>rfl,?_⟩
            rw[Nat.zero_mul,Nat.add_zero]
            exact(hkeep (by rw[e3];exact Nat.le_refl _) (hw.reads.flat hfl)).asO [] 0
        · intro k j v p kd1 lo1 f1 es1 rows1 hv
          simp only[mvC,and_self,if_true]
          cases p with
          |cons a p=>exact .dead v
          |nil=>
            simp only
            split
            case isFalse=>exact .dead v
            rename_i hcond
            obtain⟨hes,hfl⟩:=hcond
            have hes:es1=es:=by omega
            subst hes
            cases hv with
            |br0 _ _ _ _ _ _ _ a=>exact .br0 d 0 [] 2 lo1 f1 es1 a
            |br _ _ _ _ _ _ _ _ _ blk1 base1 tip1 cap1 c1 elem1 fr1 hw=>
              obtain⟨e1,e2,e3⟩:=hbwAt _ _ _ hw.own
              subst e1;subst e2
              have e4:=hw.cells.symm.trans hbr.cells
              injection e4 with e4;injection e4 with e4 e5 e6
              subst e4;subst e5;subst e6
              have hle1:=hw.tipLe
              refine .br d 0 [] 2 lo1 f1 es1 rows1 v blk1 base1 (rows.length+ys.length) cap1 c' elem1 fr1 ⟨hw.val,hw.le,hown2,hwr.at_,by rw[hcs];exact hw.fits,by rw[hcs];exact hw.loose,by omega,fun h=>by omega,fun h=>by omega,?_⟩
              refine(hkeep ?_ (hw.reads.flat hfl)).asO [] lo1
              have:(lo1+rows1.length)*es1≤tip*es1:=Nat.mul_le_mul_right _ (by omega)
              rw[Nat.add_mul]at this
              omega
            |brv _ _ _ _ _ _ _ _ hw=>
              refine .brv d 0 [] lo1 f1 es1 rows1 v ?_
              cases hw with
              |s0 a cap=>exact .s0 a cap
              |s blk2 off2 n2 cap2 c2 elem2 fr2 _ hv hb hn hc2 hr=>exact .s blk2 off2 n2 cap2 c2 elem2 fr2 _ (hVb f1 _ hv).1 ((hVb f1 _ hv).2.trans hb) hn hc2 (((hr.flat hfl).mono (hVb f1)).asO [] lo1)
        · intro k v p kd1 fl es1 i1 f1 row hv s' o' q' e1
          simp[epTo]at e1
      · refine hg.frame.map (hNear.maps (fun k j c h1 h2=>L4z h1 h2) (fun _ _ _ h=>Eqz h) ?_ ?_ ?_)
        · intro v f1 es1 rows1 hv
          simp only[offC,and_self,if_true]
          exact .dead v
        · intro k j v p kd1 lo1 f1 es1 rows1 hv
          simp only[offC,and_self,if_true]
          exact .dead v
        · intro k v p kd1 fl es1 i1 f1 row hv s' o' q' e1
          rw[Epz]at e1;simp at e1
  have htags0:=MBz (Q:=False) (kd:=kd) (es:=m) (q:=q) (lo:=lo) (n:=rows.length) (o:=o) (s:=s) (fun a b h=>h) hg.tags hrt
  have hgood:Good X' vs (Cnz s o q d kd m σ) (fun a b=>a=d∧b=0):=⟨hinv,hframe,htags0.cell,htags0.box⟩
  have hone:∀b p q' b1 t1,X'.own b=some (d,p,q',b1,t1)→p=1:=fun b p q' b1 t1 h=>by
    rcases Akz (Q:=False) h with⟨h2,_⟩|⟨p',b2,t2,_,h3⟩
    · exact(hb.1 _ _ _ _ _ h2).1
    · rcases DBz h3 with⟨_,_,e⟩|⟨_,e⟩|⟨i,j,r',_,_,_,e⟩
      · injection e with e _;exact absurd e.symm hsd
      · exact(hrt _ e).2.1
      · injection e with _ e;injection e with e _
  rw[hbr.val]
  refine⟨_,X',hrun,FKz hgood hG (.refl X') hinv (by rw[MCz];exact hd) (fun b t h=> .inl h) hone ?_⟩
  exact .ow _ es _ _ blk (base+lo*es) cap c' elem fr ⟨by simp,by simpa using hroom,by
    have:X'.own blk=_:=hown1
    rw[this];simp,hwr.at_,by rw[hcs];exact hfits,by rw[hcs];exact hbr.loose,hnew⟩
theorem Mxz {P:Program} {T:Tys} (hT:TOk P T) {X:Ctx} {vs:List Value} {σ:St} {d:Nat} (hg:Good X vs σ NoE) (hb:Bare X σ d) {v:Value} {y:SV} (hy:OSV X v y) {e u:TypeId} {es:Nat} (hu:((T.sl u).isSome||T.str u)=true) {i:TypeInfo} (hi:i.size=es)
  {yo:Option (Nat×Nat)} {f:Bool} {ys:List (List PV)} (h:KEz T e es σ y=some (yo,f,ys)) (n:Nat):
  ∃X1 news,Goes X X1∧X1.w=X.w∧(∀fl b,X.V fl b→X1.V fl b)∧Good X1 vs (offO yo σ) (fun a b=>a=d∧b=0)∧Pre X1 (offO yo σ) d n∧Src P i.size u v ys.length news X1.w∧R.ORdN X1.w.heap (X1.V f) X1.own d 1 [] n news es ys∧
   (∀b s p q base tip,X.own b=some (s,p,q,base,tip)→(∀s2 o2,yo=some (s2,o2)→¬(s=s2∧p=o2+1))→X1.own b=some (s,p,q,base,tip))∧(offO yo σ).length=σ.length∧∀s o,(∀s2 o2,yo=some (s2,o2)→¬(s=s2∧o=o2))→(ABz σ s o).isOw=true→(ABz (offO yo σ) s o).isOw=true:=by
 have flat:∀{r:Bool×List (List PV)},HKz T e es y=some r→yo=none→(f,ys)=r→∃X1 news,Goes X X1∧X1.w=X.w∧(∀fl b,X.V fl b→X1.V fl b)∧Good X1 vs (offO yo σ) (fun a b=>a=d∧b=0)∧Pre X1 (offO yo σ) d n∧Src P i.size u v ys.length news X1.w∧R.ORdN X1.w.heap (X1.V f) X1.own d 1 [] n news es ys∧
   (∀b s p q base tip,X.own b=some (s,p,q,base,tip)→(∀s2 o2,yo=some (s2,o2)→¬(s=s2∧p=o2+1))→X1.own b=some (s,p,q,base,tip))∧(offO yo σ).length=σ.length∧∀s o,(∀s2 o2,yo=some (s2,o2)→¬(s=s2∧o=o2))→(ABz σ s o).isOw=true→(ABz (offO yo σ) s o).isOw=true:=fun{r} h h1 h2=>by
  subst h1;subst h2
  obtain⟨news,h3,h4⟩:=Wvz (P:=P) hT hy hu hi h
  exact⟨X,news,.refl X,rfl,fun _ _ h=>h,hg.weak fun _ _ h=>h.elim,⟨fun b p q base tip h=>absurd h (hb.no _ _ _ _ _),hb.2.2⟩,h3,h4.asO,fun _ _ _ _ _ _ h _=>h,rfl,fun _ _ _ h=>h⟩
 unfold KEz at h
 split at h
 ·rename_i s o q kd lo f0 es0 rows hc
  split at h
  ·rename_i hfl
   split at h
   ·rename_i hcond
    obtain⟨g,hk',h⟩:=Option.map_eq_some_iff.1 h
    injection h with h1 h;injection h with h2 h3;subst h2;subst h3
    refine flat (r:=(g,rows)) ?_ h1.symm rfl
    unfold HKz
    rw[hc]
    simp only
    rw[if_pos ⟨hfl,hcond⟩,hk']
    rfl
   ·simp at h
  ·split at h
   case isFalse=>simp at h
   rename_i hcond
   obtain⟨hq,rfl,rfl,rfl,how⟩:=hcond
   injection h with h;injection h with h1 h;injection h with h2 h3;subst h1;subst h2;subst h3
   have hq:q=[]:=by cases q with|nil=>rfl|cons _ _=>simp at hq
   subst hq
   obtain⟨hcv,hna⟩:=FJz hy hc
   have hsd:s≠d:=fun e=>by subst e;rw[hb.2.2.1 o]at how;simp at how
   let Ty:Path→Nat→Nat→Option Own:=fun p base tip=>match p with
    |[]=>none
    |(i,j)::r=>if i<rows.length then some (d,1,(n+i,j)::r,base,tip)else none
   have hTy:∀{p:Path} {base tip:Nat} {t:Own},Ty p base tip=some t→∃i j r,p=(i,j)::r∧i<rows.length∧t=(d,1,(n+i,j)::r,base,tip):=fun{p base tip t} ht=>by
    cases p with
    |nil=>simp[Ty]at ht
    |cons a r=>
     obtain⟨i,j⟩:=a
     simp only[Ty]at ht
     split at ht
     ·rename_i hlt;injection ht with ht;exact⟨i,j,r,rfl,hlt,ht.symm⟩
     ·simp at ht
   have hinv:Inv (X.retag s o Ty False):=by
    refine hg.inv.retag (fun p base tip s1 p1 q1 base1 tip1 h hn b base2 tip2 hb2=> ?_) fun b1 b2 q1 base1 tip1 q2 base2 tip2 s1 p1 q3 base3 tip3 base4 tip4 _ _ h1 h2=> ?_
    ·obtain⟨i,j,r,_,_,e⟩:=hTy h
     injection e with e1 e;injection e with e2 e
     subst e1
     exact hb.no _ _ _ _ _ hb2
    ·obtain⟨i,j,r,g1,_,e1⟩:=hTy h1
     obtain⟨i2,j2,r2,g2,_,e2⟩:=hTy h2
     injection e1 with _ e1;injection e1 with _ e1;injection e1 with e1 _
     injection e2 with _ e2;injection e2 with _ e2;injection e2 with e2 _
     have e3:=e1.symm.trans e2
     simp at e3
     obtain⟨⟨h3,h4⟩,h5⟩:=e3
     rw[g1,g2,h4,h5,show i=i2 from by omega]
   have hgood:Good (X.retag s o Ty False) vs (off s o σ) (fun a b=>a=d∧b=0):=by
    have ht:=DEz (T:=Ty) (Q:=False) (s':=d) (o':=0) (e:=Ayz s o) hg.tags (C7z s o) (fun k j c hc hn=>Iyz hc hn) (fun p base tip t ht=>by
     obtain⟨i,j,r,_,_,e⟩:=hTy ht
     subst e;exact .inl ⟨rfl,rfl⟩)
    exact⟨hinv,hg.frame.map (Jnz X s o Ty False),fun b s' p q base tip h=>(ht.cell b s' p q base tip h).imp (fun h=>h.elim (fun h=>h.elim) id) id,ht.box⟩
   have hrd:∀{blk off cap:Nat} {c:Array Value} {elem:TypeId} {fr:Nat×Nat},v= .slice (some ⟨blk,off,none⟩) rows.length cap→X.w.heap[blk]? =some (.cells c elem fr)→X.ORows f0 s o [] 0 c off es0 rows→∃news,Src P i.size u v rows.length news X.w∧R.ORdN (X.retag s o Ty False).w.heap ((X.retag s o Ty False).V f0) (X.retag s o Ty False).own d 1 [] n news es0 rows:=fun{blk off cap c elem fr} hv hbk hr=>by
    obtain⟨news,h3,h4⟩:=F4z hr
    have hk:(∃e',P.underlying u=some (.slice e'))∨P.underlying u=some .string:=by
     rw[Bool.or_eq_true]at hu
     rcases hu with hu|hu
     ·obtain⟨e',he⟩:=Option.isSome_iff_exists.1 hu
      exact .inl ⟨e',hT.sl u e' he⟩
     ·exact .inr (hT.str u hu)
    subst hv
    refine⟨news,⟨hk,fun _=>rfl,DRz hbk (by rw[hi];exact h3.len) h4 _,DRz (w:=X.w.drew) hbk (by rw[hi];exact h3.len) h4 _,by rw[hi];exact h3.len,h3.one⟩,h3.len,fun k row e=>⟨(h3.row k row e).1,fun j x hj=> ?_⟩⟩
    obtain⟨w,h5,h6⟩:=(h3.row k row e).2 j x hj
    have hk:=(List.getElem?_eq_some_iff.1 e).1
    refine⟨w,h5,?_⟩
    have:=h6.turns (h':=X.w.heap) (V':=(X.retag s o Ty False).V f0) (own':=(X.retag s o Ty False).own) (s':=d) (p':=1) (φ:=fun p=>[(n+k,j)]++p.drop 1) (Ext:=fun p=>∃r',p=[(k,j)]++r')
     ⟨fun p x ⟨r,hr⟩=>⟨r++[x],by rw[hr,List.append_assoc]⟩,fun p x ⟨r,hr⟩=>by rw[hr];simp,AOz.V f0,fun b p base tip ⟨r',hr⟩ ho=>⟨by
      rw[Apz ho,hr]
      simp[Ty,hk],rfl⟩⟩ ⟨[],by simp⟩
    simp only[List.nil_append,List.drop_succ_cons,List.drop_zero,List.append_nil,Nat.zero_add]at this
    exact this
   have hlook:=HOz (hcv 0)
   refine⟨X.retag s o Ty False,?_⟩
   have hrest:∀news,Src P i.size u v rows.length news X.w→R.ORdN (X.retag s o Ty False).w.heap ((X.retag s o Ty False).V f0) (X.retag s o Ty False).own d 1 [] n news es0 rows→∃news,Goes X (X.retag s o Ty False)∧(X.retag s o Ty False).w=X.w∧(∀fl b,X.V fl b→(X.retag s o Ty False).V fl b)∧Good (X.retag s o Ty False) vs (offO (some (s,o)) σ) (fun a b=>a=d∧b=0)∧Pre (X.retag s o Ty False) (offO (some (s,o)) σ) d n∧Src P i.size u v rows.length news (X.retag s o Ty False).w∧R.ORdN (X.retag s o Ty False).w.heap ((X.retag s o Ty False).V f0) (X.retag s o Ty False).own d 1 [] n news es0 rows∧
     (∀b s1 p q base tip,X.own b=some (s1,p,q,base,tip)→(∀s2 o2,some (s,o)=some (s2,o2)→¬(s1=s2∧p=o2+1))→(X.retag s o Ty False).own b=some (s1,p,q,base,tip))∧(offO (some (s,o)) σ).length=σ.length∧∀s1 o1,(∀s2 o2,some (s,o)=some (s2,o2)→¬(s1=s2∧o1=o2))→(ABz σ s1 o1).isOw=true→(ABz (offO (some (s,o)) σ) s1 o1).isOw=true:=fun news h1 h2=>
    ⟨news,CTz X s o Ty False,rfl,fun fl b h=>(AOz.V fl b h).1,hgood,⟨fun b p q base tip h=>by
     rcases Akz h with⟨h3,_⟩|⟨p',b',t',_,h3⟩
     ·exact absurd h3 (hb.no _ _ _ _ _)
     ·obtain⟨i,j,r,_,_,e⟩:=hTy h3
      injection e with _ e;injection e with e1 e;injection e with e2 _
      exact⟨e1,n+i,j,r,e2,by omega⟩,fun p=>B8z _ _ σ d p (C7z s o d p) (LPz s o d p) (hb.2.2.1 p),fun l e=>by
     obtain⟨m,hm⟩:=(Bmz _ _ _ _ _).1 ⟨l,e⟩
     exact hb.2.2.2 m hm⟩,h1,h2,fun b s1 p q base tip h hne=>BEz h (hne s o rfl),Arz _ _ _ _,fun s1 o1 hne hw=>by
     show(ABz (Afz (offC s o) (Ayz s o) 0 σ) s1 o1).isOw=true
     rw[Byz _ _ σ s1 o1 (C7z ..) hw]
     exact Iyz hw (hne s o rfl)⟩
   rcases hlook with⟨e3,a,cap,e4⟩|⟨blk,off,cap,c,elem,fr,hv,hcap,hbk,hr⟩
   ·subst e3;subst e4
    have hk:(∃e',P.underlying u=some (.slice e'))∨P.underlying u=some .string:=by
     rw[Bool.or_eq_true]at hu
     rcases hu with hu|hu
     ·obtain⟨e',he⟩:=Option.isSome_iff_exists.1 hu
      exact .inl ⟨e',hT.sl u e' he⟩
     ·exact .inr (hT.str u hu)
    exact hrest [] ⟨hk,fun _=>rfl,Baz _ _ _ _,Baz _ _ _ _,by simp,fun _ h=>by simp at h⟩ .nil
   ·obtain⟨news,h1,h2⟩:=hrd hv hbk hr
    exact hrest news h1 h2
 ·rename_i hno
  obtain⟨r,h1,h2⟩:=AHz h
  injection h2 with h3 h4
  exact flat h1 h3.symm h4.symm
theorem RIz {P:Program} {T:Tys} (hT:TOk P T) {X:Ctx} {vs:List Value} {σ σ':St} {d:Nat} (hg:Good X vs σ NoE) (hb:Bare X σ d) (hd:d<σ.length) {t u ty:TypeId} {xv yv:Value} {x y sv:SV} (hx:OSV X xv x) (hy:OSV X yv y)
  (hu:((T.sl u).isSome||T.str u)=true) (h:Dnz T σ d t x y=some (σ',sv)):∃v X',(Builtin.append_ #[t,u] ty #[xv,yv]).run P X.w= .ok v X'.w∧Eff X X' vs σ' d v sv:=by
 unfold Dnz at h
 obtain⟨e,e1,h⟩:=AAz h
 obtain⟨es,e2,h⟩:=AAz h
 obtain⟨bs,e3,h⟩:=AAz h
 obtain⟨z,e4,h⟩:=AAz h
 split at h
 ·simp at h
 rename_i hz0
 have hz:z.length=es:=Classical.byContradiction fun hh=>hz0 (.inl hh)
 have hbs:0<bs:=Nat.pos_of_ne_zero fun hh=>hz0 (.inr hh)
 have hmax:∀n:Nat,n*bs≤LIM→n≤4611686018427387904:=fun n hn=>by
  have:n≤n*bs:=Nat.le_mul_of_pos_right _ hbs
  unfold LIM at hn
  omega
 obtain⟨⟨yo,fy,ys⟩,e5,h⟩:=AAz h
 obtain⟨c,e6,h⟩:=AAz h
 obtain⟨i,hi,hsz⟩:=hT.sz e es e2
 obtain⟨hc,_⟩:=FJz hx e6
 simp only at h
 split at h
 ·rename_i f0 es0
  split at h
  case isFalse=>simp at h
  rename_i hlim
  injection h with h;injection h with h1 h2;subst h1;subst h2
  obtain⟨_,a,e7⟩:=Dvz hc
  subst e7
  obtain⟨X1,news,G1,hw1,hV1,hg1,hp1,hsrc,hn,hkeep,hlen,_⟩:=Mxz (P:=P) hT hg hb hy hu hsz e5 0
  cases ys with
  |nil=>
   have hrun:=run_append_nothing (P:=P) X1.w t u ty e i (hT.sl t e e1) hi a 0 0 (Nat.le_refl _) yv (by
    have:news=[]:=List.length_eq_zero_iff.1 (by rw[hn.len];simp)
    rw[←this];exact hsrc)
   rw[hw1]at hrun
   refine⟨_,X1,by rw[hrun,hw1],FKz hg1 G1 (.refl X1) hg1.inv (by rw[hlen];exact hd) (fun b t h=> .inl h) (fun b p q base tip h=>(hp1.1 _ _ _ _ _ h).1) (.ow0 fy es a)⟩
  |cons y1 ys=>
   obtain⟨v,X',hr,hE⟩:=JXz (P:=P) hT G1 rfl hg1 (fun b p q base tip h=>⟨(hp1.1 _ _ _ _ _ h).1,by obtain⟨_,i,j,r,e,_⟩:=hp1.1 _ _ _ _ _ h;rw[e];simp⟩) (by rw[hlen];exact hd) (t:=t) (u:=u) (ty:=ty) e1 e2 e3 e4 hz (base:=a) (sCap:=0) (f:=fy) (rows:=[]) (ys:=y1::ys) (olds:=[]) hi hsz hsrc (Baz _ _ _ _) .nil hn (by simp) (by simpa using hlim) (by simpa using hmax _ hlim)
   rw[hw1]at hr
   exact⟨v,X',hr,by simpa using hE⟩
 ·rename_i s o q kd lo f es' rows
  split at h
  case isFalse=>simp at h
  rename_i hcond
  obtain⟨rfl,hkd,how,hlim,hne⟩:=hcond
  have hsd:s≠d:=fun e=>by subst e;rw[hb.2.2.1 o]at how;simp at how
  have h:some (Cnz s o q d kd (if T.mo then 0 else es'+1) (offO yo σ),SV.c .one [CV.ow (f||fy) es' (rows++ys)])=some (σ',sv)∧(q≠[]→kd=0):=by
   cases q with
   |nil=>exact⟨h,fun h=>absurd rfl h⟩
   |cons a q=>
    simp only at h
    split at h
    ·rename_i hk;exact⟨h,fun _=>hk⟩
    ·simp at h
  obtain⟨h,hkq⟩:=h
  injection h with h;injection h with h1 h2;subst h1;subst h2
  obtain⟨X1,news,G1,hw1,hV1,hg1,hp1,hsrc,hn,hkeep,hlen,how1⟩:=Mxz (P:=P) hT hg hb hy hu hsz e5 rows.length
  have hne':∀s2 o2,yo=some (s2,o2)→¬(s=s2∧o=o2):=fun s2 o2 e1 e2=>by
   obtain⟨rfl,rfl⟩:=e2
   exact hne e1
  have hO:∀b p base tip,X.own b=some (s,o+1,p,base,tip)→X1.own b=some (s,o+1,p,base,tip)∧X1.w.heap[b]? =X.w.heap[b]? :=fun b p base tip h=>⟨hkeep _ _ _ _ _ _ h fun s2 o2 e1 e2=>hne' s2 o2 e1 ⟨e2.1,by omega⟩,by rw[hw1]⟩
  have hV:∀b,X.V f b→X1.V f b∧X1.w.heap[b]? =X.w.heap[b]? :=fun b h=>⟨hV1 f b h,by rw[hw1]⟩
  have hprn:∀{rt:Option Own} {Q:Prop} {n:Nat},(∀t,rt=some t→t.1=d∧t.2.1=1∧t.2.2.1=[])→∀b p q' base tip,(X1.retag s o (appT s o q d lo n rt) Q).own b=some (d,p,q',base,tip)→p=1∧(rt=none→q'≠[]):=fun{rt Q n} hrt b p q' base tip h=>by
   rcases Akz h with⟨h3,_⟩|⟨p',b',t',_,h3⟩
   ·obtain⟨h4,i,j,r,e,_⟩:=hp1.1 _ _ _ _ _ h3
    exact⟨h4,fun _=>by rw[e];simp⟩
   ·rcases DBz h3 with⟨_,_,e⟩|⟨_,e⟩|⟨i,j,r',_,_,_,e⟩
    ·injection e with e _;exact absurd e.symm hsd
    ·exact⟨(hrt _ e).2.1,fun e2=>by rw[e2]at e;simp at e⟩
    ·injection e with _ e;injection e with e1 e;injection e with e2 _
     exact⟨e1,fun _=>by rw[e2];simp⟩
  have hnone:∀t,(none:Option Own)=some t→t.1=d∧t.2.1=1∧t.2.2.1=[]:=fun t h=>by simp at h
  have hleft:Good (X1.retag s o (appT s o q d lo rows.length none) True) vs (Cnz s o q d kd (if T.mo then 0 else es'+1) (offO yo σ)) (fun a b=>a=d∧b=0):=by
   have:=MBz (Q:=True) (kd:=kd) (es:=(if T.mo then 0 else es'+1)) (q:=q) (lo:=lo) (n:=rows.length) (o:=o) (s:=s) (fun a b h=>h) hg1.tags hnone
   exact⟨(Poz hg1.inv hp1 hsd hnone).2 True,SKz hg1.frame,this.cell,this.box⟩
  have hsize:d<(Cnz s o q d kd (if T.mo then 0 else es'+1) (offO yo σ)).length:=by rw[MCz,hlen];exact hd
  have hgrow:∀{base:Option Addr} {sCap:Nat} {olds:List Value},xv= .slice base rows.length sCap→(Builtin.firstCells i.size rows.length (.slice base rows.length sCap)).run P X.w.drew= .ok olds.toArray X.w.drew→R.ORdN X1.w.heap (X1.V f) X1.own s (o+1) q lo olds es' rows→sCap<rows.length+ys.length→
    ∃v X',(Builtin.append_ #[t,u] ty #[xv,yv]).run P X.w= .ok v X'.w∧Eff X X' vs (Cnz s o q d kd (if T.mo then 0 else es'+1) (offO yo σ)) d v (.c .one [.ow (f||fy) es' (rows++ys)]):=fun{base sCap olds} e7 hold ho hgr=>by
   subst e7
   have ho2:=Ojz (d:=d) (n:=rows.length) (r:=none) (Q:=True) (Nat.le_refl _) ho
   have hn2:R.ORdN (X1.retag s o (appT s o q d lo rows.length none) True).w.heap ((X1.retag s o (appT s o q d lo rows.length none) True).V fy) (X1.retag s o (appT s o q d lo rows.length none) True).own d 1 [] rows.length news es' ys:=hn.mono (AOz.V fy) fun b q base tip ho=>⟨BEz ho fun e=>hsd e.1.symm,rfl⟩
   have:=JXz (P:=P) hT (G1.trans (CTz X1 s o (appT s o q d lo rows.length none) True)) (w:=X.w) hw1 hleft (fun b p q base tip h=>⟨(hprn hnone b p q base tip h).1,(hprn hnone b p q base tip h).2 rfl⟩) hsize (t:=t) (u:=u) (ty:=ty) e1 e2 e3 e4 hz (base:=base) (sCap:=sCap) (f:=f||fy) (rows:=rows) (ys:=ys) (olds:=olds) hi hsz (by rw[←hw1];exact hsrc) hold
    (ho2.mono (fun b hb=>⟨V_or fy hb,rfl⟩) fun b q base tip ho=>⟨ho,rfl⟩) (hn2.mono (fun b hb=>⟨Etz f hb,rfl⟩) fun b q base tip ho=>⟨ho,rfl⟩) hgr hlim (by rw[Nat.add_comm];exact hmax _ hlim)
   exact this
  have hc0:=hc 0
  cases hc0 with
  |br0 _ _ _ _ _ _ _ a=>
   cases ys with
   |nil=>
    have hrun:=run_append_nothing (P:=P) X.w t u ty e i (hT.sl t e e1) hi a 0 0 (Nat.le_refl _) yv (by
     have:news=[]:=List.length_eq_zero_iff.1 (by rw[hn.len];simp)
     rw[←this,←hw1];exact hsrc)
    refine⟨_,X1.retag s o (appT s o q d lo 0 none) True,by rw[hrun];exact congrArg _ hw1.symm,FKz hleft (G1.trans (CTz X1 s o _ True)) (.refl _) hleft.inv hsize (fun b t h=> .inl h) (fun b p q base tip h=>(hprn hnone b p q base tip h).1) (.ow0 _ es' a)⟩
   |cons y1 ys=>exact hgrow rfl (Baz _ _ _ _) .nil (by simp)
  |br _ _ _ _ _ _ _ _ _ blk base tip cap c1 elem fr hbr=>
   have hbr1:BrRel X1 s o q kd lo xv f es' rows blk base tip cap c1 elem fr:=⟨hbr.val,hbr.le,(hO _ _ _ _ hbr.own).1,(hO _ _ _ _ hbr.own).2.trans hbr.cells,hbr.fits,hbr.loose,hbr.tipLe,hbr.tip1,hbr.lo0,hbr.reads.mono hV hO⟩
   by_cases hroom:rows.length+ys.length≤cap
   ·obtain⟨v,X',hr,hE⟩:=PMz (P:=P) (ty:=ty) (u:=u) hT hg1 (by rw[hlen];exact hd) hsd e1 hp1 hi hsz hsrc hbr1 hkd hn hroom (m:=if T.mo then 0 else es'+1) (by split<;>simp)
    rw[hw1]at hr
    exact⟨v,X',hr,G1.trans hE.goes,hE.good⟩
   ·obtain⟨olds,ho,hoc⟩:=F4z hbr1.reads
    exact hgrow hbr.val (DRz (w:=X.w.drew) hbr.cells (by rw[hsz];exact ho.len) hoc _) ho (by omega)
  |brv=>omega
 ·simp at h
end Go.Proofs.YtblelojdboefjaaGreatDoor.R
namespace Go.Proofs.YtblelojdboefjaaGreatDoor.R
open Go
inductive OParts (X:Ctx) (σ:St):List (Nat×Value)→List (Nat×SV)→Prop
 |nil:OParts X σ [] []
 |cons (i:Nat) (v:Value) (x:SV) (vs:List (Nat×Value)) (ps:List (Nat×SV)):(∀cs,cells? x=some cs→OCells X σ v.cells.toList cs)→OParts X σ vs ps→OParts X σ ((i,v)::vs) ((i,x)::ps)
theorem OParts.map {X X':Ctx} {σ σ':St} (H:∀v c,OV X σ v c→OV X' σ' v c):∀{vs:List (Nat×Value)} {ps:List (Nat×SV)},OParts X σ vs ps→OParts X' σ' vs ps
 |_,_,.nil=> .nil
 |_,_,.cons i v x vs ps h t=> .cons i v x vs ps (fun cs e=>(h cs e).map H) (OParts.map H t)
theorem Hwz (gv:List Value) {es:Nat}:∀{ps:List (Nat×SV)} {vs:List (Nat×Value)} {X:Ctx} {E:Nat→Nat→Prop} {g f':Bool} {rows rows':List (List PV)} {σ σ':St} {z:Array Value},Good X gv σ E→OParts X σ vs ps→
  R.ORows X.w.heap (X.V g) (fun _=>none) 0 0 [] 0 z 0 es rows→z.size=rows.length*es→Aqz none es ps g rows σ=some (σ',f',rows')→
   ∃X' z',Kept X X' gv σ σ' E∧Instr.fill (fun i=>some (i*es,es)) z vs=some z'∧R.ORows X'.w.heap (X'.V f') (fun _=>none) 0 0 [] 0 z' 0 es rows'∧z'.size=rows'.length*es∧rows'.length=rows.length
 |[],vs,X,E,g,f',rows,rows',σ,σ',z,hg,hp,hr,hz,h=>by
  cases hp
  simp only[Aqz]at h;injection h with h;injection h with h0 h;injection h with h3 h4;subst h0;subst h3;subst h4
  exact⟨X,z,.refl hg,rfl,hr,hz,rfl⟩
 |(i,x)::ps,_,X,E,g,f',rows,rows',σ,σ',z,hg,.cons _ v _ vs _ hv ht,hr,hz,h=>by
  simp only[Aqz,Option.map_none]at h
  obtain⟨cs,e2,h⟩:=AAz h
  obtain⟨⟨σ1,f1,p1⟩,e3,h⟩:=AAz h
  obtain⟨X1,k1,hp⟩:=F8z gv (m:=id) hg (by simpa using hv cs e2) e3
  simp only at h
  split at h
  ·rename_i hle
   have hr1:R.ORows X1.w.heap (X1.V g) (fun _=>none) 0 0 [] 0 z 0 es rows:=hr.mono (fun b hb=>⟨k1.V g b hb,by rw[k1.w]⟩) fun b q base tip ho=>by simp at ho
   obtain⟨l1,l2,l3,l4⟩:=Gaz (V':=X1.V (g||f1)) (fun b hb=>V_or f1 hb) hr1 hz hle.1 hle.2.1 hp.length (fun n u x h1 h2=> .rd _ _ _ ((hp.getV n u x h1 h2).mono fun b hb=>⟨Etz g hb,rfl⟩))
   obtain⟨X2,z',k2,r,q1,q2,q3⟩:=Hwz gv (ps:=ps) (vs:=vs) k1.good (ht.map k1.ov) l1 (by rw[l2,hz];simp) h
   refine⟨X2,z',k1.trans k2,?_,q1,q2,by simpa using q3⟩
   simp only[Instr.fill]
   have l5:¬(v.cells.size≠es∨i*es+v.cells.size>z.size):=fun hh=>hh.elim (fun h=>h l3) fun h=>by omega
   rw[if_neg (by simpa using l5)]
   exact r
  ·simp at h
theorem HUz {X:Ctx} {σ:St}:∀{l:List CV} {vals:List Value} {σ':St} {f:Bool} {ps:List PV} {tg:Option Tgt} {m:CV→CV},(∀c,isSh c=true→m c=c)→l.all isSh=true→OCells X σ vals l→Aiz tg m l σ=some (σ',f,ps)→σ'=σ∧FLs X f vals ps
 |[],vals,σ',f,ps,tg,m,hm,hl,hv,he=>by
  simp only[Aiz]at he
  injection he with he;injection he with e1 he;injection he with e2 e3;subst e1;subst e2;subst e3
  cases hv
  exact⟨rfl,rfl,fun n v p h=>by simp at h⟩
 |c::l,vals,σ',f,ps,tg,m,hm,hl,hv,he=>by
  cases hv with
  |cons v _ vals _ hc ht=>
  simp only[List.all_cons,Bool.and_eq_true]at hl
  cases c with
  |sh f0 p0=>
   have hcv:=hc.resolve_right (by rintro⟨_,_,_,_,_,_,_,_,h,_⟩;cases h) 0 0
   have hrd:∀s o q,R.ORd X.w.heap (X.V (!p0.scalar&&f0)) (fun _=>none) s o q v p0:=fun s o q=>by
    cases hcv with|sh _ _ _ h=>exact .rd _ _ _ (Lhz h)
   cases tg with
   |none=>
    simp only[Aiz,hm _ hl.1,nest,Option.bind_some]at he
    obtain⟨⟨σ2,f2,p2⟩,h1,he⟩:=AHz he
    injection he with e1 he;injection he with e2 e3;subst e1;subst e2;subst e3
    obtain⟨h2,h3⟩:=HUz hm hl.2 ht h1
    exact⟨h2,.cons hrd h3⟩
   |some g=>
    simp only[Aiz,hm _ hl.1,Cmz,Option.bind_some]at he
    obtain⟨⟨σ2,f2,p2⟩,h1,he⟩:=AHz he
    injection he with e1 he;injection he with e2 e3;subst e1;subst e2;subst e3
    obtain⟨h2,h3⟩:=HUz (m:=fun x=>id (m x)) (fun c hc=>by show m c=c;exact hm c hc) hl.2 ht h1
    exact⟨h2,.cons hrd h3⟩
  |_=>simp[isSh]at hl
theorem Igz {X:Ctx} {σ:St} {es:Nat} {tg:Option Nat} {own:Nat→Option Own} {s p:Nat}:∀{ps:List (Nat×SV)} {vs:List (Nat×Value)} {g f':Bool} {rows rows':List (List PV)} {σ':St} {z:Array Value},OParts X σ vs ps→(ps.all fun p=>Fwz p.2)=true→
  R.ORows X.w.heap (X.V g) own s p [] 0 z 0 es rows→z.size=rows.length*es→Aqz tg es ps g rows σ=some (σ',f',rows')→
   ∃z',σ'=σ∧Instr.fill (fun i=>some (i*es,es)) z vs=some z'∧R.ORows X.w.heap (X.V f') own s p [] 0 z' 0 es rows'∧z'.size=rows'.length*es∧rows'.length=rows.length
 |[],vs,g,f',rows,rows',σ',z,hp,hs,hr,hz,h=>by
  cases hp
  simp only[Aqz]at h;injection h with h;injection h with h0 h;injection h with h3 h4;subst h0;subst h3;subst h4
  exact⟨z,rfl,rfl,hr,hz,rfl⟩
 |(i,x)::ps,_,g,f',rows,rows',σ',z,.cons _ v _ vs _ hv ht,hs,hr,hz,h=>by
  simp only[List.all_cons,Bool.and_eq_true]at hs
  simp only[Aqz]at h
  obtain⟨cs,e2,h⟩:=AAz h
  obtain⟨⟨σ1,f1,p1⟩,e3,h⟩:=AAz h
  have hcs:cs.all isSh=true:=by
   have:=hs.1
   unfold Fwz at this
   rw[e2]at this
   exact this
  obtain⟨e5,hp⟩:=HUz (fun c _=>rfl) hcs (hv cs e2) e3
  simp only at h
  rw[e5]at h
  split at h
  ·rename_i hle
   obtain⟨l1,l2,l3,l4⟩:=Gaz (V':=X.V (g||f1)) (fun b hb=>V_or f1 hb) hr hz hle.1 hle.2.1 hp.1 (fun n u x h1 h2=>(hp.2 n u x h1 h2 0 0 _).mono (fun b hb=>⟨Etz g hb,rfl⟩) fun b q base tip ho=>by simp at ho)
   obtain⟨z',e4,r,q1,q2,q3⟩:=Igz (ps:=ps) (vs:=vs) ht hs.2 l1 (by rw[l2,hz];simp) h
   refine⟨z',e4,?_,q1,q2,by simpa using q3⟩
   simp only[Instr.fill]
   have l5:¬(v.cells.size≠es∨i*es+v.cells.size>z.size):=fun hh=>hh.elim (fun h=>h l3) fun h=>by omega
   rw[if_neg (by simpa using l5)]
   exact r
  ·simp at h
theorem OParts.sh {X X':Ctx} {σ σ':St} (hw:X'.w=X.w) (hV:∀f b,X.V f b→X'.V f b):∀{vs:List (Nat×Value)} {ps:List (Nat×SV)},OParts X σ vs ps→(ps.all fun p=>Fwz p.2)=true→OParts X' σ' vs ps
 |_,_,.nil,_=> .nil
 |_,_,.cons i v x vs ps h t,hs=>by
  simp only[List.all_cons,Bool.and_eq_true]at hs
  refine .cons i v x vs ps (fun cs e=> ?_) (OParts.sh hw hV t hs.2)
  have hcs:cs.all isSh=true:=by
   have:=hs.1
   unfold Fwz at this
   rw[e]at this
   exact this
  have ho:=h cs e
  clear h e
  generalize v.cells.toList=vals at ho
  induction ho with
  |nil=>exact .nil
  |cons v c vs l h t ih=>
   simp only[List.all_cons,Bool.and_eq_true]at hcs
   refine .cons v c vs l ?_ (ih hcs.2)
   cases c with
   |sh f p=>
    have hcv:=h.resolve_right (by rintro⟨_,_,_,_,_,_,_,_,h,_⟩;cases h)
    refine .inl fun k j=> ?_
    have:=hcv k j
    cases this with|sh _ _ _ h=>exact .sh f p v (h.mono fun b hb=>⟨hV f b hb,by rw[hw]⟩)
   |_=>simp[isSh]at hcs
theorem PBz (gv:List Value) {es d:Nat} {ps:List (Nat×SV)} {vs:List (Nat×Value)} {X:Ctx} {f':Bool} {rows rows':List (List PV)} {σ σ':St} {z:Array Value} (hg:Good X gv σ NoE) (hb:Bare X σ d) (hp:OParts X σ vs ps)
  (hr:R.ORows X.w.heap (X.V false) (fun _=>none) 0 0 [] 0 z 0 es rows) (hz:z.size=rows.length*es) (h:Aqz (some d) es ps false rows σ=some (σ',f',rows')):
   ∃X' z' m,KeptM X X' gv σ σ' NoE d 0 (fun p=>p≠[]) m∧Instr.fill (fun i=>some (i*es,es)) z vs=some z'∧R.ORows X'.w.heap (X'.V f') X'.own d 1 [] 0 z' 0 es rows'∧z'.size=rows'.length*es∧rows'.length=rows.length:=by
 have any:∀{X':Ctx} {g:Bool},X'.w=X.w→(∀b,X.V false b→X'.V g b)→R.ORows X'.w.heap (X'.V g) X'.own d 1 [] 0 z 0 es rows:=fun{X' g} hw hV=>hr.mono (fun b hb=>⟨hV b hb,by rw[hw]⟩) fun b q base tip ho=>by simp at ho
 cases hp with
 |nil=>
  simp only[Aqz]at h;injection h with h;injection h with h0 h;injection h with h3 h4;subst h0;subst h3;subst h4
  exact⟨X,z,id,.same _ _ _ hg,rfl,any rfl (fun _ h=>h),hz,rfl⟩
 |cons i v x vs ps hv ht=>
  simp only[Aqz,Option.map_some]at h
  obtain⟨cs,e2,h⟩:=AAz h
  obtain⟨⟨σ1,f1,p1⟩,e3,h⟩:=AAz h
  simp only at h
  split at h
  case isFalse=>simp at h
  rename_i hle
  obtain⟨X1,m1,k1,hp1⟩:=G1z gv (m:=id) (tg:=⟨d,0,[],i,0⟩) hg (by simpa using hv cs e2) (fun n r b base tip _ ho=>hb.no _ _ _ _ _ ho) e3
  have hsh:(ps.all fun p=>Fwz p.2)=true:=by simpa using hle.2.2
  obtain⟨l1,l2,l3,l4⟩:=Gaz (V':=X1.V (false||f1)) (fun b hb=>hb) (any (X':=X1) (g:=false||f1) k1.w fun b hb=>V_or f1 (k1.V false b hb)) hz hle.1 hle.2.1 hp1.1 (fun n u x h1 h2=>by
   have:=hp1.2 n u x h1 h2
   simp only[Nat.zero_add]at this
   exact this.mono (fun b hb=>⟨Etz false hb,rfl⟩) fun b q base tip ho=>⟨ho,rfl⟩)
  obtain⟨z',e4,r,q1,q2,q3⟩:=Igz (X:=X1) (σ:=σ1) (ps:=ps) (vs:=vs) (ht.sh k1.w k1.V hsh) hsh l1 (by rw[l2,hz];simp) h
  subst e4
  refine⟨X1,z',m1,⟨k1.goes,k1.w,k1.good,k1.free,fun b q base tip ho=>(k1.tgf b q base tip ho).imp id fun⟨n,r,_,e⟩=>by rw[e];simp,k1.noOw,k1.ov,k1.firm,k1.V,k1.tgt,k1.size⟩,?_,q1,q2,by simpa using q3⟩
  simp only[Instr.fill]
  have l5:¬(v.cells.size≠es∨i*es+v.cells.size>z.size):=fun hh=>hh.elim (fun h=>h l3) fun h=>by omega
  rw[if_neg (by simpa using l5)]
  exact r
theorem Qbz {c:CV} {σ σ':St} {f:Bool} {p:PV} (h:nest c σ=some (σ',f,p)) (d:Nat) (sh:Shape):(∃m,σ'[d]? =some (.c sh m))↔∃m,σ[d]? =some (.c sh m):=by
 unfold nest at h
 split at h
 ·injection h with h;injection h with h;subst h;exact Iff.rfl
 ·injection h with h;injection h with h;subst h;exact Iff.rfl
 ·split at h
  ·injection h with h;injection h with h;subst h;exact Bmz _ _ _ _ _
  ·simp at h
 ·simp at h
theorem Ozz {tg:Tgt} {c:CV} {σ σ':St} {m:CV→CV} {f:Bool} {p:PV} (h:Cmz tg c σ=some (σ',m,f,p)) (d:Nat) (sh:Shape):(∃m,σ'[d]? =some (.c sh m))↔∃m,σ[d]? =some (.c sh m):=by
 unfold Cmz at h
 split at h
 ·injection h with h;injection h with h;subst h;exact Iff.rfl
 ·injection h with h;injection h with h;subst h;exact Iff.rfl
 ·split at h
  ·split at h
   ·injection h with h;injection h with h;subst h;exact Bmz _ _ _ _ _
   ·injection h with h;injection h with h;subst h;exact Bmz _ _ _ _ _
  ·simp at h
 ·simp at h
theorem FYz:∀{l:List CV} {tg:Option Tgt} {m:CV→CV} {σ σ':St} {f:Bool} {ps:List PV},Aiz tg m l σ=some (σ',f,ps)→∀(d:Nat) (sh:Shape),(∃m,σ'[d]? =some (.c sh m))↔∃m,σ[d]? =some (.c sh m)
 |[],tg,m,σ,σ',f,ps,h,d,sh=>by simp only[Aiz]at h;injection h with h;injection h with h;subst h;exact Iff.rfl
 |c::l,none,m,σ,σ',f,ps,h,d,sh=>by
  simp only[Aiz]at h
  obtain⟨⟨σ1,f1,p1⟩,h1,h⟩:=AAz h
  obtain⟨⟨σ2,f2,p2⟩,h2,h⟩:=AHz h
  injection h with h _;subst h
  exact(FYz h2 d sh).trans (Qbz h1 d sh)
 |c::l,some g,m,σ,σ',f,ps,h,d,sh=>by
  simp only[Aiz]at h
  obtain⟨⟨σ1,m1,f1,p1⟩,h1,h⟩:=AAz h
  obtain⟨⟨σ2,f2,p2⟩,h2,h⟩:=AHz h
  injection h with h _;subst h
  exact(FYz h2 d sh).trans (Ozz h1 d sh)
theorem E5z {tg:Option Nat} {es:Nat}:∀{ps:List (Nat×SV)} {g f':Bool} {rows rows':List (List PV)} {σ σ':St},Aqz tg es ps g rows σ=some (σ',f',rows')→∀(d:Nat) (sh:Shape),(∃m,σ'[d]? =some (.c sh m))↔∃m,σ[d]? =some (.c sh m)
 |[],g,f',rows,rows',σ,σ',h,d,sh=>by simp only[Aqz]at h;injection h with h;injection h with h;subst h;exact Iff.rfl
 |(i,x)::ps,g,f',rows,rows',σ,σ',h,d,sh=>by
  simp only[Aqz]at h
  obtain⟨cs,e2,h⟩:=AAz h
  obtain⟨⟨σ1,f1,p1⟩,e3,h⟩:=AAz h
  simp only at h
  split at h
  ·exact(E5z h d sh).trans (FYz e3 d sh)
  ·simp at h
theorem MEz {X X':Ctx} {vs:List Value} {σ σ':St} {d:Nat} (hb:Bare X σ d) (k:Kept X X' vs σ σ' NoE) (hs:∀(sh:Shape),(∃m,σ'[d]? =some (.c sh m))↔∃m,σ[d]? =some (.c sh m)):Bare X' σ' d:=by
 have hbx:∀l,σ'[d]? ≠some (.c .box l):=fun l e=>by
  obtain⟨m,hm⟩:=(hs .box).1 ⟨l,e⟩
  exact hb.2.2.2 m hm
 refine⟨fun p=>k.free d p (hb.1 p),fun b q base tip e=> ?_,fun p=>k.noOw d p (hb.2.2.1 p),hbx⟩
 obtain⟨l,hl⟩:=k.good.tags.box _ _ _ _ _ e
 exact hbx l hl
theorem QTz {P:Program} {T:Tys} (hT:TOk P T) (mo:Bool) {X:Ctx} {vs:List Value} {σ σ':St} {d:Nat} (hg:Good X vs σ NoE) (hb:Bare X σ d) (hd:d<σ.length) {t e:TypeId} {es n:Nat} {z:List PV} {parts:List (Nat×Value)} {ps:List (Nat×SV)} {f:Bool} {rows:List (List PV)}
  (h1:T.sl t=some e) (h2:T.sz e=some es) (h4:T.zr e=some z) (hn:n*es≤16777216) (hz:z.length=es) (hp:OParts X σ parts ps)
  (h:Aqz (if mo then some d else none) es ps false (List.replicate n (zoIf mo z)) σ=some (σ',f,rows)):
  ∃v X',(Instr.buildSlice t n parts.toArray).run P X.w= .ok v X'.w∧Eff X X' vs σ' d v (.c .one [.ow f es rows]):=by
 have hu:=hT.sl t e h1
 obtain⟨i,hi1,hi2⟩:=hT.sz e es h2
 obtain⟨v0,hr,hc,hpz⟩:=Exz (w:=X.w) hT h4
 have h0:R.ORows X.w.heap (X.V false) (fun _=>none) 0 0 [] 0 (BSz v0.cells (n*es)) 0 es (List.replicate n (zoIf mo z)):=by rw[←hz];exact HFz mo hc hpz n
 have main:∃X1 z',Goes X X1∧X1.w=X.w∧Good X1 vs σ' (fun a b=>a=d∧b=0)∧(∀b p q base tip,X1.own b=some (d,p,q,base,tip)→p=1∧q≠[])∧σ'.length=σ.length∧Instr.fill (fun i=>some (i*es,es)) (BSz v0.cells (n*es)) parts=some z'∧R.ORows X1.w.heap (X1.V f) X1.own d 1 [] 0 z' 0 es rows∧z'.size=rows.length*es∧rows.length=n:=by
  cases mo with
  |false=>
   simp only[Bool.false_eq_true,if_false]at h
   obtain⟨X1,z',k1,hfill,q1,q2,q3⟩:=Hwz vs hg hp h0 (by rw[Ebz];simp) h
   have hbare:=MEz hb k1 (E5z h d)
   exact⟨X1,z',k1.goes,k1.w,k1.good.weak fun _ _ h=>h.elim,fun b p q base tip ho=>absurd ho (hbare.no _ _ _ _ _),k1.size,hfill,q1.mono (fun b hb=>⟨hb,rfl⟩) fun b q base tip ho=>by simp at ho,q2,by rw[q3];simp⟩
  |true=>
   simp only[if_true]at h
   obtain⟨X1,z',m,k1,hfill,q1,q2,q3⟩:=PBz vs hg hb hp h0 (by rw[Ebz];simp) h
   refine⟨X1,z',k1.goes,k1.w,k1.good.weak fun a b h=>h.elim (fun h=>h.elim) id,fun b p q base tip ho=> ?_,k1.size,hfill,q1,q2,by rw[q3];simp⟩
   cases p with
   |zero=>
    obtain⟨l,hl⟩:=k1.good.tags.box _ _ _ _ _ ho
    obtain⟨l',hl'⟩:=(E5z h d .box).1 ⟨l,hl⟩
    exact absurd hl' (hb.2.2.2 l')
   |succ p=>
    by_cases hp0:p=0
    ·subst hp0
     refine⟨rfl,?_⟩
     rcases k1.tgf _ _ _ _ ho with h3|h3
     ·exact absurd h3 (hb.no _ _ _ _ _)
     ·exact h3
    ·exact absurd ho (k1.free d p (fun e=>hp0 e.2) (hb.1 p) _ _ _ _)
 obtain⟨X1,z',G1,hw1,hg1,hpre,hlen1,hfill,q1,q2,hlen⟩:=main
 have hpush:Pushes X1.w (X.w.alloc (.cells z' e)) (.cells z' e (0,0)):=⟨by rw[hw1];rfl,by rw[hw1];rfl,by rw[hw1];rfl,by rw[hw1];rfl⟩
 have hcells:(Array.range (n*es)).map ((if n*es=0 then(#[]:Array Value)else v0.cells)[· % (if n*es=0 then(#[]:Array Value)else v0.cells).size]!)=BSz v0.cells (n*es):=Gkz id
 have hm:=FMz (t:=(d,1,[],0,rows.length)) hg1.inv hpush
 have hinv:=HYz (d:=d) (p:=1) (base:=0) (tip:=rows.length) hg1.inv hpush fun b base tip h=>(hpre _ _ _ _ _ h).2 rfl
 have hE:=FKz hg1 (G1.trans (FNz hpush)) hm hinv (by rw[hlen1];exact hd) (fun b t h=>(ENz h).imp id fun e=>by rw[e];exact⟨rfl,rfl⟩) (fun b p q base tip h=>(hpre _ _ _ _ _ h).1)
  (.ow f es rows (.slice (some ⟨X1.w.heap.size,0,none⟩) rows.length rows.length) X1.w.heap.size 0 rows.length z' e (0,0) ⟨rfl,Nat.le_refl _,by simp[Ctx.made],hpush.new,by rw[q2];simp,Kmz _,q1.mono (hm.V f) (hm.ownP d 1)⟩)
 refine⟨_,_,?_,hE⟩
 unfold Instr.buildSlice
 simp only[Sem.run_bind,A9z hu,Result.andThen_ok,Dqz hi1,hi2]
 rw[if_neg (by omega)]
 by_cases h0:n*es=0
 ·simp only[if_pos h0]at hcells
  rw[if_pos h0]
  simp only[Sem.run_bind,Sem.run_pure,Result.andThen_ok,hcells,hfill,newRow,run_newObj,hlen,hw1]
  rfl
 ·simp only[if_neg h0]at hcells
  rw[if_neg h0]
  simp only[Sem.run_bind,Sem.run_pure,Result.andThen_ok,hr,hcells,hfill,newRow,run_newObj,hlen,hw1]
  rfl
end Go.Proofs.YtblelojdboefjaaGreatDoor.R
namespace Go.Proofs.YtblelojdboefjaaGreatDoor.R
open Go
theorem Haz {P:Program} {o:Oper} {a:Act} {next:Act→World→Prop} {Q:Exit→Act→World→Prop} {g:FuncId} {args:Array Value} {w:World} (h:Lands P g args w fun v w'=>next (a.put o.dst v) w'):o.upon P a next Q ((callFunc g args).run P w):=by
 unfold Lands at h
 generalize(callFunc g args).run P w=r at h ⊢
 cases r with
 |ok n w'=>
  cases n with
  |value v=>exact h
  |enter f as=>
   rw[Oper.upon_enter]
   refine Calls.mono h ?_
   intro e w'' he
   cases e with
   |returned v=>exact he
   |_=>exact he.elim
  |row row as=>rw[Oper.upon_row];exact h
  |_=>exact h.elim
 |_=>exact h.elim
theorem Dxz {P:Program} {g:FuncId} {args:Array Value} {w:World} {R R':Value→World→Prop} (h:Lands P g args w R) (hr:∀v w',R v w'→R' v w'):Lands P g args w R':=by
 unfold Lands at h ⊢
 generalize(callFunc g args).run P w=r at h ⊢
 cases r with
 |ok n w'=>
  cases n with
  |value v=>exact hr _ _ h
  |enter f as=>
   refine Calls.mono h ?_
   intro e w'' he
   cases e with
   |returned v=>exact hr _ _ he
   |_=>exact he.elim
  |row row as=>exact Rows.mono h fun v w'=>hr v w'
  |_=>exact h.elim
 |_=>exact h.elim
theorem KHz {P:Program} {w:World} {a:Act} {o:Oper} {c:Call} {f:Operand} (ho:o.op= .call c) (hc:c.callee= .value f) {g:FuncId} {cs:Array Value} (hf:a.eval f= .func (.func g) #[] cs):
  (execOp a.eval o).run P w=(callFunc g ((c.args.toList.map a.eval).toArray++cs)).run P w:=by
 have hargs:c.args.map a.eval=(c.args.toList.map a.eval).toArray:=by apply Array.ext';simp
 unfold execOp
 simp only[ho,resolve,hc,hf,Deferred.ofValue,Sem.run_bind,Sem.run_pure,Result.andThen_ok,invoke,hargs]
 simp
theorem Uqz (lent:List (Nat×Nat)) (k j:Nat) (c:CV):COz [] lent false k j c=c:=by cases c<;>simp[COz]
theorem Iaz {g:Nat→CV→CV} (h:∀j c,g j c=c):∀(j:Nat) (l:List CV),Acz g j l=l
 |_,[]=>rfl
 |j,c::l=>by simp[Acz,h,Iaz h]
theorem TAz (any:Bool) (k j:Nat) (c:CV):COz [] [] any k j c=c:=by cases c<;>simp[COz]
theorem WDz (lent:List (Nat×Nat)) (σ:St):back [] lent false σ=σ:=by
 apply List.ext_getElem?
 intro k
 unfold back
 rw[BQz]
 cases σ[k]? with
 |none=>rfl
 |some x=>
  simp only[Option.map_some,Nat.zero_add]
  congr 1
  cases x with
  |c sh l=>simp only[SV.mapC];rw[Iaz fun j c=>Uqz lent k j c]
  |ep s o kd fl es i f row=>simp[SV.mapC,EFz]
  |_=>rfl
theorem Unz (any:Bool) (σ:St):back [] [] any σ=σ:=by
 apply List.ext_getElem?
 intro k
 unfold back
 rw[BQz]
 cases σ[k]? with
 |none=>rfl
 |some x=>
  simp only[Option.map_some,Nat.zero_add]
  congr 1
  cases x with
  |c sh l=>simp only[SV.mapC];rw[Iaz (fun j c=>TAz any k j c)]
  |ep s o kd fl es i f row=>simp[SV.mapC,EFz]
  |_=>rfl
theorem OYz (lent:List (Nat×Nat)) (any:Bool) (σ:St) (h:(any&& !lent.isEmpty)=false):back [] lent any σ=σ:=by
 cases any with
 |false=>exact WDz lent σ
 |true=>
  have:lent=[]:=by simpa using h
  rw[this];exact Unz true σ
theorem L1z {P:Program} {E:Env} {call:CallF} (hcall:Bvz P call) {X:Ctx} {a:Act} {gv:List Value} {σ:St} (hg:Good X (All a gv) σ NoE) {N:Nat} (hN:N=a.tmps.size) {d:Nat} (hd:∀b p q base tip,X.own b≠some (d,p,q,base,tip))
  {o:Oper} {sv:SV} (h:ALz E call N o σ=some sv) {c:Call} {f:Operand} (ho:o.op= .call c) (hc:c.callee= .value f):
  ∃(g:FuncId) (args:Array Value),(execOp a.eval o).run P X.w=(callFunc g args).run P X.w∧Lands P g args X.w fun v w'=>∃X',X'.w=w'∧PureRes X X' d v sv:=by
 unfold ALz at h
 simp only[ho,hc]at h
 split at h
 case h_2=>simp at h
 rename_i g hf
 split at h
 ·simp at h
 split at h
 case isFalse=>simp at h
 rename_i hgh
 obtain⟨q,hq,h⟩:=AAz h
 obtain⟨r,hr,h⟩:=AAz h
 split at h
 case isFalse=>simp at h
 rename_i hcond
 injection h with h
 have hev:∀x,OSV X (a.eval x) (opd E.T N o.type σ x):=fun x=>Bcz hg hN x
 have hfv:=hev f
 rw[hf]at hfv
 have hgs:(c.args.toList.map (opd E.T N o.type σ)).flatMap Ajz++[]=[]:=by simpa using hgh
 have hin:FWz call σ g [] [] q=some (σ,sv):=by
  unfold FWz
  simp only[Bwz,Option.bind_some,List.all_nil,List.contains_nil,Bool.not_false,true_and]
  rw[if_pos (by simp)]
  simp only[List.length_nil,Nat.sub_self,List.range'_zero,List.map_nil,List.append_nil,hr,Option.bind_some]
  rw[if_pos ⟨hcond.1,hcond.2.2.1,hcond.2.2.2,by rw[List.length_eq_zero_iff.1 hcond.1];rfl⟩]
  rw[List.length_eq_zero_iff.1 hcond.1]
  simp only[List.any_nil,Bool.or_false,List.map_nil,BPz,OYz _ _ _ hcond.2.1,h]
 obtain⟨cs,e1,hL⟩:=MTz hcall hg (gs:=[]) (caps:=[]) rfl (EMz (l:=c.args.toList) (f:=a.eval) fun x _=>hev x) hq hgs hfv (d:=some d) (fun d' e=>by injection e with e;subst e;exact hd) (fun d' e=>rfl) hin
 refine⟨g,_,KHz ho hc e1,Dxz hL ?_⟩
 rintro v w' ⟨X',hw,G,hgood,hs,hm,hres⟩
 obtain⟨hmono,hnew⟩:=hm rfl fun r' hr'=>by
  have:=hr.symm.trans hr'
  injection this with this
  rw[←this];exact hcond.2.1
 obtain⟨h1,h2,h3⟩:=hres d rfl
 exact⟨X',hw,G,hmono,hgood.inv,fun b t hb=>(hnew b t hb).imp id fun e=>by injection e with e;exact e.symm,h1,fun b p q base tip e=> .inr (h2 b p q base tip e),fun b q base tip e=>absurd e (h3 b q base tip)⟩
theorem MFz {o:Oper} (h:G7z o=true):∃c f,o.op= .call c∧c.callee= .value f:=by
 unfold G7z at h
 split at h
 ·rename_i c hc
  split at h
  ·rename_i f hf
   exact⟨c,f,hc,hf⟩
  ·simp at h
 ·simp at h
theorem Efz:∀{l:List CV} {σ σ':St},settle l σ=some σ'→∀(d:Nat) (sh:Shape),(∃m,σ'[d]? =some (.c sh m))↔∃m,σ[d]? =some (.c sh m)
 |[],σ,σ',h,d,sh=>by simp only[settle]at h;injection h with h;subst h;exact Iff.rfl
 |c::l,σ,σ',h,d,sh=>by
  cases c with
  |br s o q kd lo f es rows=>
   simp only[settle]at h
   split at h
   ·exact(Efz h d sh).trans (Bmz _ _ _ _ _)
   ·exact Efz h d sh
  |_=>simp only[settle]at h;exact Efz h d sh
theorem Hsz:∀{gs:List Nat} {σ σ':St},settles gs σ=some σ'→∀(d:Nat) (sh:Shape),(∃m,σ'[d]? =some (.c sh m))↔∃m,σ[d]? =some (.c sh m)
 |[],σ,σ',h,d,sh=>by simp only[settles]at h;injection h with h;subst h;exact Iff.rfl
 |s::l,σ,σ',h,d,sh=>by
  simp only[settles]at h
  obtain⟨σ1,h1,h⟩:=AAz h
  unfold GMz at h1
  obtain⟨b,h2,h1⟩:=AAz h1
  exact(Hsz h d sh).trans (Efz h1 d sh)
theorem Uaz {P:Program} {E:Env} (hT:TOk P E.T) {call:CallF} (hcall:Bvz P call) {X:Ctx} {a:Act} {gv:List Value} {σ σ':St} (hg:Good X (All a gv) σ NoE) {N:Nat} (hN:N=a.tmps.size) {d:Nat} (hb:Bare X σ d) (hd:d<σ.length) {ty:TypeId} {f:Operand} {xs:List Operand} {sv:SV}
  (h:Bsz E call N ty d σ f xs=some (σ',sv)):∃(g:FuncId) (cs:Array Value),a.eval f= .func (.func g) #[] cs∧Lands P g ((xs.map a.eval).toArray++cs) X.w fun v w'=>∃X',X'.w=w'∧Eff X X' (All a gv) σ' d v sv:=by
 unfold Bsz at h
 split at h
 case h_2=>simp at h
 rename_i g caps hf
 split at h
 ·rename_i ho hso
  split at h
  case isFalse=>simp at h
  rename_i hcap
  subst hcap
  have hfv:=Bcz hg hN (T:=E.T) (ty:=ty) f
  rw[hf]at hfv
  have hfv0:∃cs:Array Value,a.eval f= .func (.func g) #[] cs∧cs.size=0:=by
   have h0:=hfv 0
   generalize a.eval f=v at h0
   cases h0 with
   |fn _ _ cs hcs _=>exact⟨cs,rfl,hcs⟩
  obtain⟨cs,e1,hcs⟩:=hfv0
  ·have:cs= #[]:=Array.eq_empty_of_size_eq_zero hcs
   subst this
   refine⟨g,#[],e1,?_⟩
   have hL:=hT.so g ho hso X (All a gv) σ σ' (xs.map a.eval) (xs.map (opd E.T N ty σ)) sv d hg (by simp) (fun i v x h1 h2 k=>by
    rw[List.getElem?_map]at h1 h2
    cases hx:xs[i]? with
    |none=>simp[hx]at h1
    |some y=>
     simp[hx]at h1 h2
     subst h1;subst h2
     exact Bcz hg hN y k) h hd hb.no hb.2.2.1 hb.2.2.2
   rw[Array.append_empty]
   exact Dxz hL fun v w' ⟨X',hw,G,hgood⟩=>⟨X',hw,G,hgood⟩
 simp only at h
 split at h
 case isFalse=>simp at h
 rename_i hn
 obtain⟨σ1,h1,h⟩:=AAz h
 split at h
 case h_2=>simp at h
 rename_i g' caps' hf'
 split at h
 case isFalse=>simp at h
 rename_i hcond
 obtain⟨rfl,hgs⟩:=hcond
 obtain⟨q,hq,h⟩:=AAz h
 obtain⟨X1,k1⟩:=Fxz (All a gv) hg h1
 have hb1:=MEz hb k1 (Hsz h1 d)
 have hev:∀x,OSV X1 (a.eval x) (opd E.T N ty σ1 x):=fun x=>Bcz k1.good hN x
 have hfv:=hev f
 rw[hf']at hfv
 have hdg:(List.flatMap (fun x=>Ajz (opd E.T N ty σ x)) xs++caps).contains d=false:=by
  have h':=h
  unfold FWz at h'
  obtain⟨bs,hbs,_⟩:=AAz h'
  cases hc:(List.flatMap (fun x=>Ajz (opd E.T N ty σ x)) xs++caps).contains d with
  |false=>rfl
  |true=>
   obtain⟨p,hp⟩:=Fgz hc
   have hp:=CVz hp
   obtain⟨e1,e2⟩:=DVz hbs
   have hlt:p<bs.length:=by rw[e1];exact(List.getElem?_eq_some_iff.1 hp).1
   exact absurd (e2 p d _ hp (List.getElem?_eq_getElem hlt)) (hb1.2.2.2 _)
 obtain⟨cs,e1,hL⟩:=MTz hcall k1.good hn (EMz (l:=xs) (f:=a.eval) fun x _=>hev x) hq (by rw[List.flatMap_map];exact hgs) hfv (d:=some d) (fun d' e=>by injection e with e;subst e;exact hb1.no) (fun d' e=>by injection e with e;subst e;exact hdg) h
 rw[k1.w]at hL
 refine⟨g',cs,e1,Dxz hL ?_⟩
 rintro v w' ⟨X',hw,G,hgood,hs,_,hres⟩
 obtain⟨r1,r2,r3⟩:=hres d rfl
 refine⟨X',hw,k1.goes.trans G,DIz hgood (fun a b e=>by injection e with e;exact e.symm) (.refl X') hgood.inv (by rw[hs,k1.size];exact hd) (fun b t h=> .inl h) r3 r1 r2 fun b q base tip e=>absurd e (r3 b q base tip)⟩
theorem UYz {P:Program} {E:Env} (hT:TOk P E.T) {call:CallF} (hcall:Bvz P call) {X:Ctx} {a:Act} {gv:List Value} {σ σ':St} (hg:Good X (All a gv) σ NoE) {N:Nat} (hN:N=a.tmps.size) {d:Nat} (hb:Bare X σ d) (hd:d<N) {o:Oper} (ho:o.dst=some d) {sv:SV}
  (h:Cyz E call N o d σ=some (σ',sv)) {next:Act→World→Prop} {Q:Exit→Act→World→Prop} (hnext:∀v X',Eff X X' (All a gv) σ' d v sv→next (a.put o.dst v) X'.w):o.upon P a next Q ((execOp a.eval o).run P X.w):=by
 have hev:∀x,OSV X (a.eval x) (opd E.T N o.type σ x):=fun x=>Bcz hg hN x
 have hdl:d<σ.length:=by
  rw[←hg.frame.1];unfold All;rw[List.length_append,Array.length_toList];omega
 have hval:∀{s:Sem Value} {v:Value} {X':Ctx},(execOp a.eval o)=(do pure (Next.value (←s)):Sem Next)→s.run P X.w= .ok v X'.w→Eff X X' (All a gv) σ' d v sv→o.upon P a next Q ((execOp a.eval o).run P X.w):=fun{s v X'} e hr hE=>by
  rw[e,Bhz hr]
  exact hnext v X' hE
 unfold Cyz at h
 cases hop:o.op with
 |assign x=>
  simp only[hop]at h
  split at h
  ·rename_i l hx
   obtain⟨⟨σ1,l'⟩,h1,h2⟩:=AHz h
   injection h2 with h2 h3;subst h2;subst h3
   have hv:=hev x
   rw[hx]at hv
   obtain⟨X',hw,hE⟩:=Kxz hg hb hdl hv (by simp) h1
   have:(execOp a.eval o).run P X.w= .ok (.value (a.eval x)) X'.w:=by rw[hw];unfold execOp;simp only[hop];rfl
   rw[this]
   exact hnext _ X' hE
  ·rename_i l hx
   obtain⟨⟨σ1,l'⟩,h1,h2⟩:=AHz h
   injection h2 with h2 h3;subst h2;subst h3
   have hv:=hev x
   rw[hx]at hv
   obtain⟨X',hw,hE⟩:=Kxz hg hb hdl hv (by simp) h1
   have:(execOp a.eval o).run P X.w= .ok (.value (a.eval x)) X'.w:=by rw[hw];unfold execOp;simp only[hop];rfl
   rw[this]
   exact hnext _ X' hE
  ·simp at h
 |alloc t=>
  simp only[hop]at h
  obtain⟨z,h1,h2⟩:=AHz h
  injection h2 with h2 h3;subst h2;subst h3
  obtain⟨v,X',hr,hE⟩:=MRz (P:=P) hT hg hb hdl h1
  exact hval (by unfold execOp;simp only[hop]) hr hE
 |box t x=>
  simp only[hop]at h
  obtain⟨n,h1,h⟩:=AAz h
  obtain⟨cs,h2,h⟩:=AAz h
  split at h
  case isFalse=>simp at h
  obtain⟨⟨σ1,l'⟩,h3,h4⟩:=AHz h
  injection h4 with h4 h5;subst h4;subst h5
  obtain⟨v,X',hr,hE⟩:=Q4z (P:=P) (t:=t) hg hb hdl (hev x) h2 h3
  exact hval (by unfold execOp;simp only[hop]) hr hE
 |buildSlice t n ps=>
  simp only[hop]at h
  obtain⟨e,h1,h⟩:=AAz h
  obtain⟨es,h2,h⟩:=AAz h
  obtain⟨z,h3,h⟩:=AAz h
  split at h
  case isFalse=>simp at h
  rename_i hcond
  obtain⟨⟨σ1,f,rows⟩,h4,h5⟩:=AHz h
  injection h5 with h5 h6;subst h5;subst h6
  have hp:OParts X σ (ps.toList.map fun p=>(p.1,a.eval p.2)) (ps.toList.map fun p=>(p.1,opd E.T N o.type σ p.2)):=by
   generalize ps.toList=l
   induction l with
   |nil=>exact .nil
   |cons p l ih=>exact .cons _ _ _ _ _ (fun cs e=>(D4z (hev p.2) e).1.ocells) ih
  obtain⟨v,X',hr,hE⟩:=QTz (P:=P) hT E.T.mo hg hb hdl h1 h2 h3 hcond.1 hcond.2 hp h4
  refine hval ?_ hr hE
  unfold execOp
  simp only[hop]
  have:(ps.map fun(i,x)=>(i,a.eval x))=(ps.toList.map fun p=>(p.1,a.eval p.2)).toArray:=by
   apply Array.ext';simp
  rw[this]
 |call c=>
  simp only[hop]at h
  split at h
  ·rename_i hcal
   split at h
   ·rename_i x y t u hxs hts
    split at h
    case isFalse=>simp at h
    rename_i hu
    have hargs:OSVs X (c.args.toList.map a.eval) (c.args.toList.map (opd E.T N o.type σ)):=EMz fun x _=>hev x
    rw[hxs]at hargs
    have hca:c.args.map a.eval=(c.args.toList.map a.eval).toArray:=by apply Array.ext';simp
    generalize c.args.toList.map a.eval=av at hargs hca
    cases hargs with
    |cons xv _ _ _ hx ht=>
     cases ht with
     |cons yv _ _ _ hy ht=>
      cases ht
      obtain⟨v,X',hr,hE⟩:=RIz (P:=P) (ty:=o.type) hT hg hb hdl hx hy hu h
      have hat:c.argTypes= #[t,u]:=by apply Array.ext';exact hts
      have:(execOp a.eval o).run P X.w= .ok (.value v) X'.w:=by
       unfold execOp
       simp only[hop,resolve,hcal,hca,hat,Sem.run_bind,Sem.run_pure,Result.andThen_ok,invoke,builtin]
       rw[hr]
       rfl
      rw[this]
      exact hnext v X' hE
   ·simp at h
  ·rename_i f hcal
   obtain⟨g,cs,e1,hL⟩:=Uaz hT hcall hg hN hb hdl h
   rw[KHz hop hcal e1]
   refine Haz (Dxz hL ?_)
   rintro v w' ⟨X',rfl,hE⟩
   exact hnext v X' hE
  ·simp at h
 |_=>simp[hop]at h
end Go.Proofs.YtblelojdboefjaaGreatDoor.R
namespace Go.Proofs.YtblelojdboefjaaGreatDoor.R
open Go
theorem Thz {P:Program} {w w':World} {s:Sem Unit} (h:s.run P w= .ok () w'):(do s;pure Next.skip:Sem Next).run P w= .ok .skip w':=by
 simp[h]
theorem Taz {P:Program} {T:Tys} (hT:TOk P T) {X:Ctx} {a:Act} {gv:List Value} {σ σ':St} (hg:Good X (All a gv) σ NoE) {N:Nat} (hN:N=a.tmps.size) {oty t:TypeId} {p x:Operand} (h:Fqz T N oty σ t p x=some σ'):
  ∃X',(Instr.storeAt t (a.eval p) (a.eval x)).run P X.w= .ok () X'.w∧Goes X X'∧Good X' (All a gv) σ' NoE:=by
 unfold Fqz at h
 obtain⟨n,hn,h⟩:=AAz h
 split at h
 ·rename_i s o hp
  simp only at h
  split at h
  ·rename_i s' o' cs hp' hx
   split at h
   case isFalse=>simp at h
   rename_i hcond
   obtain⟨rfl,rfl,hlen⟩:=hcond
   obtain⟨⟨σ2,l'⟩,h1,h⟩:=AAz h
   simp only at h
   split at h
   ·rename_i l hl
    split at h
    case isFalse=>simp at h
    rename_i hfit
    injection h with h;subst h
    exact Tcz hT hg hN hn hp' hx hlen h1 hl hfit
   ·simp at h
  ·simp at h
 ·rename_i s o q kd fl es i f row0 hp
  split at h
  case isFalse=>simp at h
  rename_i hkd
  obtain⟨cs,hx,h⟩:=AAz h
  split at h
  ·simp at h
  rename_i hlen
  exact Tbz hT hg hN hn hx (by simpa using hlen) hp hkd h
 ·simp at h
theorem Sez {X:Ctx} {vs:List Value} {σ:St} (hg:Good X vs σ NoE) (d:Nat) (op:Op):∃X',X'.w=X.w∧Goes X X'∧Good X' vs (BLz d op σ) NoE∧(BLz d op σ).length=σ.length:=by
 unfold BLz
 split
 case h_2=>exact⟨X,rfl,.refl X,hg,rfl⟩
 rename_i x
 unfold Bdz
 split
 case h_2=>exact⟨X,rfl,.refl X,hg,rfl⟩
 rename_i s lo f es rows hx
 split
 case isFalse=>exact⟨X,rfl,.refl X,hg,rfl⟩
 rename_i hc
 obtain⟨rfl,hc⟩:=hc
 have hxs:σ[x]? =some (.c .one [.br s 0 [] 1 lo f es rows]):=by
  rw[List.getD_eq_getElem?_getD]at hx
  cases e:σ[x]? with
  |none=>rw[e]at hx;simp at hx
  |some y=>rw[e]at hx;simp at hx;rw[hx]
 have hxl:x<σ.length:=(List.getElem?_eq_some_iff.1 hxs).1
 have hxv:x<vs.length:=by rw[hg.frame.1];exact hxl
 have hv:vs[x]? =some vs[x]:=List.getElem?_eq_getElem hxv
 have hrel:=hg.frame.2 x _ _ hv hxs
 generalize vs[x]=v at hv hrel
 have hflat:(∀cs,v≠ .agg cs)∧∀k j,CVRel X k j v (.br s 0 [] 1 lo f es rows):=by
  cases hrel with
  |c _ _ ws _ hf hcr=>
   cases hf with
   |one _ hn=>
    cases hcr with
    |cons _ _ _ _ _ h1 _=>
     exact⟨hn,Itz h1⟩
 have hfree:Free X x 0:=fun b q base tip e=>by
  have:=(hg.tags.cell _ _ _ _ _ _ e).resolve_left id
  rw[show ABz σ x 0= .br s 0 [] 1 lo f es rows by unfold ABz;rw[List.getD_eq_getElem?_getD,hxs];rfl]at this
  simp[CV.isOw]at this
 obtain⟨X',p,_⟩:=F2z (kp:=none) (s':=x) (o':=0) (c:= .br s 0 [] 1 lo f es rows) (c':= .ow f es rows) (σ':=off s 0 σ) hg (.inl hflat.2) hfree (by simp[persist,keeps,hc])
 have hlen:(off s 0 σ).length=σ.length:=by
  have h1:=p.good.frame.1
  have h2:=hg.frame.1
  omega
 have hxo:(off s 0 σ)[x]? =some (.c .one [.dead]):=by
  unfold off
  rw[BQz,hxs]
  simp[SV.mapC,Acz,offC]
 have hset:vs.set x v=vs:=by
  apply List.ext_getElem?
  intro i
  by_cases h:i=x
  ·subst h;rw[List.getElem?_set_self hxv,hv]
  ·rw[List.getElem?_set_ne (Ne.symm h)]
 refine⟨X',p.laid.w,p.laid.goes,?_,by rw[List.length_set];exact hlen⟩
 have hnb:∀b q base tip,X'.own b≠some (x,0,q,base,tip):=fun b q base tip e=>by
  obtain⟨l,hl⟩:=p.good.tags.box _ _ _ _ _ e
  rw[hxo]at hl
  simp at hl
 have:=DIz (sv:= .c .one [.ow f es rows]) (v:=v) (d:=x) p.good (fun a b e=>by rcases e with e|e;exact e.elim;exact e.1) (.refl X') p.good.inv (by rw[hlen];exact hxl) (fun b t h=> .inl h) hnb
  (.c .one v [v] _ (.one v hflat.1) (.cons 0 v _ [] [] p.cv (.nil 1))) ?_ ?_
 ·rw[hset]at this;exact this
 ·intro b q q' base tip e
  cases q with
  |zero=>rfl
  |succ q=>
   have:=p.good.tags.cell _ _ _ _ _ _ e
   rcases this with(h|h)|h
   ·exact h.elim
   ·omega
   ·rw[show ABz (off s 0 σ) x (q+1)= .dead by unfold ABz;rw[List.getD_eq_getElem?_getD,hxo];rfl]at h
    simp[CV.isOw]at h
 ·intro b q base tip e
  exact absurd e (hnb b q base tip)
theorem Ixz {P:Program} {E:Env} (hT:TOk P E.T) {call:CallF} (hcall:Bvz P call) {X:Ctx} {a:Act} {gv:List Value} {σ σ':St} (hg:Good X (All a gv) σ NoE) {N:Nat} (hN:N=a.tmps.size) {o:Oper} (h:AJz E call N o σ=some σ')
  {next:Act→World→Prop} {Q:Exit→Act→World→Prop} (hnext:∀a' X',Goes X X'→Good X' (All a' gv) σ' NoE→a'.tmps.size=N→a'.defers=a.defers→next a' X'.w):o.wp P a X.w next Q:=by
 unfold Oper.wp
 unfold AJz at h
 split at h
 ·rename_i hdst
  split at h
  ·rename_i t p x hop
   obtain⟨X',hr,G,hgood⟩:=Taz (P:=P) hT hg hN h
   have:(execOp a.eval o).run P X.w= .ok .skip X'.w:=by
    unfold execOp
    simp only[hop]
    exact Thz hr
   rw[this,Oper.upon_skip,hdst]
   exact hnext a X' G hgood hN.symm rfl
  ·rename_i xs ts hop
   split at h
   ·rename_i x t hxs hts
    obtain⟨X',hr,G,hgood⟩:=U4z (P:=P) (ty:=o.type) hT hg (Bcz (T:=E.T) (ty:=o.type) hg hN x) h
    have hxa:xs= #[x]:=by apply Array.ext';exact hxs
    have hta:ts= #[t]:=by apply Array.ext';exact hts
    have:(execOp a.eval o).run P X.w= .ok (.value (.tuple #[])) X'.w:=by
     unfold execOp
     simp only[hop,resolve,hxa,hta,Sem.run_bind,Sem.run_pure,Result.andThen_ok,invoke,builtin,List.map_toArray,List.map_cons,List.map_nil]
     rw[hr]
     rfl
    rw[this,Oper.upon_value,hdst]
    exact hnext a X' G hgood hN.symm rfl
   ·simp at h
  ·simp at h
 ·rename_i d hdst
  split at h
  case isFalse=>simp at h
  rename_i hd
  obtain⟨X0,hw0,G0,hg0,hl0⟩:=Sez hg d o.op
  generalize BLz d o.op σ=σ at *
  have hlen0:N≤σ.length:=by
   rw[←hg0.frame.1];unfold All;rw[List.length_append,Array.length_toList];omega
  rw[←hw0]
  obtain⟨X1,C⟩:=Fnz hg0 d
  have hb:Bare X1 (clear d σ) d:=⟨C.free,C.noBox,C.noOw,C.noBx⟩
  have hlen:N≤(clear d σ).length:=by
   rw[C.size];exact hlen0
  have hdl:d<(clear d σ).length:=Nat.lt_of_lt_of_le hd hlen
  have hfin:∀v X' σ2 sv,Eff X1 X' (All a gv) σ2 d v sv→σ'=σ2.set d sv→next (a.put o.dst v) X'.w:=fun v X' σ2 sv hE e=>by
   subst e
   refine hnext _ X' ((G0.trans C.goes).trans hE.goes) ?_ (by rw[Eyz];exact hN.symm) (Dtz a o.dst v)
   rw[hdst,I7z (hN▸hd)]
   exact hE.good
  rw[←C.w]
  simp only at h
  split at h
  ·rename_i sv hp
   injection h with h
   cases hc:G7z o with
   |false=>
    obtain⟨v,X',hr,q⟩:=NBz (P:=P) hT C.good hN (C.free 0) hp hc
    rw[hr,Oper.upon_value]
    exact hfin v X' _ sv (Cvz C.good hb hdl q) h.symm
   |true=>
    obtain⟨c,f,ho,hcal⟩:=MFz hc
    obtain⟨g,args,e1,hL⟩:=L1z hcall C.good hN hb.no hp ho hcal
    rw[e1]
    refine Haz (Dxz hL ?_)
    rintro v w' ⟨X',rfl,q⟩
    exact hfin v X' _ sv (Cvz C.good hb hdl q) h.symm
  ·obtain⟨⟨σ2,sv⟩,h1,h2⟩:=AHz h
   exact UYz hT hcall C.good hN hb hd hdst h1 fun v X' hE=>hfin v X' _ sv hE h2.symm
theorem Myz {X:Ctx} {k:Nat}:SVRel X k undef skipSV:=
 .c _ _ _ _ (Flat.tup [] #[] [] rfl rfl fun i v a n f h=>by simp at h) (.nil 0)
theorem LKz {X:Ctx} {a:Act} {gv:List Value} {σ:St} (hg:Good X (All a gv) σ NoE) {N:Nat} (hN:N=a.tmps.size) {dst:Option Tmp} (hd:Kyz N dst=true):
  ∃X',X'.w=X.w∧Goes X X'∧Good X' (All (a.put dst undef) gv) (Mdz dst skipSV (I4z dst σ)) NoE:=by
 cases dst with
 |none=>exact⟨X,rfl,.refl X,hg⟩
 |some d=>
  have hd:d<N:=by simpa[Kyz]using hd
  obtain⟨X1,C⟩:=Fnz hg d
  have hlen:N≤(clear d σ).length:=by
   rw[C.size,←hg.frame.1];unfold All;rw[List.length_append,Array.length_toList];omega
  have hdl:d<(clear d σ).length:=Nat.lt_of_lt_of_le hd hlen
  have hE:=Cvz C.good ⟨C.free,C.noBox,C.noOw,C.noBx⟩ hdl (PureRes.same C.good.inv (v:=undef) (sv:=skipSV) fun k=>Myz)
  refine⟨X1,C.w,C.goes,?_⟩
  rw[I7z (hN▸hd)]
  exact hE.good
theorem DZz {X:Ctx} {a:Act} {gv:List Value} {σ:St} (hg:Good X (All a gv) σ NoE) {N:Nat} (hN:N=a.tmps.size) {ops:Array Oper} {o:Oper} {b:Bool} (h:Asz N ops o σ=some b):Region.wanted o (yielded ops a.tmps)=b:=by
 unfold Asz at h
 split at h
 ·rename_i hgd
  injection h with h;subst h
  simp[Region.wanted,hgd]
 ·rename_i j want hgd
  obtain⟨t,ht,h⟩:=AAz h
  split at h
  case isFalse=>simp at h
  rename_i hlt
  obtain⟨ox,hox,h⟩:=AHz h
  have hoj:∃oj,ops[j]? =some oj∧oj.dst=some t:=by
   cases hoj:ops[j]? with
   |none=>simp[hoj]at ht
   |some oj=>exact⟨oj,rfl,by simpa[hoj]using ht⟩
  obtain⟨oj,hoj,hdj⟩:=hoj
  have h1:t<a.tmps.size:=hN▸hlt
  have h2:a.tmps[t]? =some a.tmps[t]:=Array.getElem?_eq_getElem h1
  unfold gval at hox
  split at hox
  ·rename_i hsk
   injection hox with hox;subst hox
   have hlen:t<σ.length:=by
    have e:=hg.frame.1
    unfold All at e
    rw[List.length_append,Array.length_toList]at e
    exact Nat.lt_of_lt_of_le h1 (e▸Nat.le_add_right _ _)
   have hs:σ[t]? =some (.c (.tup []) []):=by
    rw[List.getD_eq_getElem?_getD,List.getElem?_eq_getElem hlen]at hsk
    simp only[Option.getD_some]at hsk
    rw[List.getElem?_eq_getElem hlen,hsk]
   have hv:(All a gv)[t]? =some a.tmps[t]:=by
    unfold All
    rw[List.getElem?_append_left (by rw[Array.length_toList];exact h1),Array.getElem?_toList,h2]
   have hr:=hg.frame.2 t _ _ hv hs
   have he:a.tmps[t]=undef:=by
    generalize a.tmps[t]=v at hr
    cases hr with
    |c _ _ vs _ hfl _=>
     cases hfl with
     |tup _ ws fs h3 h4 _=>
      have:ws= #[]:=by simpa using h4
      subst this;rfl
   rw[←h]
   simp only[Region.wanted,hgd,yielded,hoj,Option.bind_some,hdj,h2,he]
   rfl
  obtain⟨x,hx,hox⟩:=AHz hox
  subst hox
  have hop:=Bcz (T:=⟨fun _=>none,fun _=>none,fun _=>none,fun _=>none,fun _=>none,fun _ _=>none,fun _ _=>none,fun _=>none,fun _=>false,fun _=>false,fun _=>false,fun _=>none,false,false⟩) (ty:=0) hg hN (.tmp t)
  have hv:a.eval (.tmp t)= .bool x:=by
   refine Liz hop ?_
   simp only[opd,if_pos hlt]
   have:∀(sv:SV) k,sv.bool?=some x→(sv.view k).bool?=some x:=fun sv k h=>by
    unfold SV.bool? SV.pv? SV.one? at h ⊢
    cases sv with
    |c sh l=>
     cases sh with
     |one=>
      cases l with
      |nil=>simp at h
      |cons c l=>
       cases l with
       |cons _ _=>simp at h
       |nil=>
        cases c with
        |sh f p=>simpa[SV.view,Acz,CV.view]using h
        |ow f es rows=>simp[CV.p?]at h
        |br=>simp[CV.p?]at h
        |dead=>simp[CV.p?]at h
     |_=>simp at h
    |_=>simp at h
   exact this _ t hx
  have he:a.tmps[t]? =some (.bool x):=by
   simp only[Act.eval]at hv
   rw[h2]
   have h3:a.tmps.getD t undef=a.tmps[t]:=by simp[h1]
   rw[←hv,h3]
  rw[←h]
  simp only[Region.wanted,hgd,yielded,hoj,Option.bind_some,hdj,he]
  try (cases x<;>cases want<;>rfl)
theorem ILz {P:Program} {E:Env} (hT:TOk P E.T) {call:CallF} (hcall:Bvz P call) {gv:List Value} {N:Nat} {ops:Array Oper} {Q:Exit→Act→World→Prop}:∀{l:List Nat} {X:Ctx} {a:Act} {σ σ':St},Good X (All a gv) σ NoE→N=a.tmps.size→AYz E call N ops l σ=some σ'→
  (∀a' X',Goes X X'→Good X' (All a' gv) σ' NoE→a'.tmps.size=N→a'.defers=a.defers→Q .normal a' X'.w)→wpOps P ops Q l a X.w
 |[],X,a,σ,σ',hg,hN,h,hQ=>by
  simp only[AYz]at h
  injection h with h;subst h
  exact hQ a X (.refl X) hg hN.symm rfl
 |i::l,X,a,σ,σ',hg,hN,h,hQ=>by
  simp only[AYz]at h
  simp only[wpOps]
  split at h
  ·simp at h
  ·rename_i o ho
   simp only[ho]
   obtain⟨w,hw,h0⟩:=AAz h
   obtain⟨σ1,h1,h2⟩:=AAz h0
   clear h h0
   rw[DZz hg hN hw]
   cases w with
   |true=>
    simp only[if_true]at h1 ⊢
    refine .inl (Ixz hT hcall hg hN h1 fun a' X' G hg' hs hd=> ?_)
    exact ILz hT hcall hg' hs.symm h2 fun a'' X'' G' hg'' hs' hd'=>hQ a'' X'' (G.trans G') hg'' hs' (hd'.trans hd)
   |false=>
    simp only[Bool.false_eq_true,if_false]at h1 ⊢
    split at h1
    case isFalse=>simp at h1
    rename_i hdok
    injection h1 with h1;subst h1
    obtain⟨X',hw',G,hg'⟩:=LKz hg hN hdok
    rw[←hw']
    exact ILz hT hcall hg' (by rw[Eyz];exact hN) h2 fun a'' X'' G' hg'' hs' hd'=>hQ a'' X'' (G.trans G') hg'' hs' (hd'.trans (Dtz a o.dst undef))
end Go.Proofs.YtblelojdboefjaaGreatDoor.R
namespace Go.Proofs.YtblelojdboefjaaGreatDoor.R
open Go
theorem R1z {T:Tys} {N:Nat} {ty:TypeId} {σ σ':St} {x:Operand} (h:∀t,x= .tmp t→σ.getD t .undef=σ'.getD t .undef):opd T N ty σ x=opd T N ty σ' x:=by
 cases x with
 |tmp t=>simp only[opd,h t rfl]
 |_=>rfl
theorem NZz {T:Tys} {σ σ':St} {t:TypeId} {x v:SV} (hb:∀s o l,x= .bp s o→σ.getD s .undef= .c .box l→σ'.getD s .undef= .c .box l) (h:C4z T σ t x=some v):C4z T σ' t x=some v:=by
 unfold C4z at h ⊢
 obtain⟨n,h1,h⟩:=AAz h
 obtain⟨a,h2,h⟩:=AAz h
 rw[h1,h2]
 simp only[Option.bind_some]
 split at h
 ·simp at h
 ·rename_i hc
  rw[if_neg hc]
  simp only at h ⊢
  cases x with
  |bp s o=>
   simp only at h ⊢
   cases e:σ.getD s .undef with
   |c sh l=>
    cases sh with
    |box=>rw[e]at h;rw[hb s o l rfl e];exact h
    |_=>rw[e]at h;simp at h
   |_=>rw[e]at h;simp at h
  |_=>exact h
theorem NCz {E:Env} {call:CallF} {N:Nat} {o:Oper} {σ σ':St} (h:∀x∈o.op.operands,opd E.T N o.type σ x=opd E.T N o.type σ' x) (hb:∀x∈o.op.operands,∀s o' l,opd E.T N o.type σ x= .bp s o'→σ.getD s .undef= .c .box l→σ'.getD s .undef= .c .box l) {v:SV} (hp:ALz E call N o σ=some v):ALz E call N o σ'=some v:=by
 unfold ALz at hp ⊢
 cases hop:o.op with
 |move x=>simp only[hop]at hp ⊢;rw[←h x (by simp[hop,Op.operands])];exact hp
 |assign x=>simp only[hop]at hp ⊢;rw[←h x (by simp[hop,Op.operands])];exact hp
 |pick c a b=>simp only[hop]at hp ⊢;rw[←h c (by simp[hop,Op.operands]),←h a (by simp[hop,Op.operands]),←h b (by simp[hop,Op.operands])];exact hp
 |binOp op t x y k=>simp only[hop]at hp ⊢;rw[←h x (by simp[hop,Op.operands]),←h y (by simp[hop,Op.operands])];exact hp
 |unOp op t x=>simp only[hop]at hp ⊢;rw[←h x (by simp[hop,Op.operands])];exact hp
 |convert s d x=>simp only[hop]at hp ⊢;rw[←h x (by simp[hop,Op.operands])];exact hp
 |fieldAddr t x f=>simp only[hop]at hp ⊢;rw[←h x (by simp[hop,Op.operands])];exact hp
 |indexAddr t x i=>simp only[hop]at hp ⊢;rw[←h x (by simp[hop,Op.operands]),←h i (by simp[hop,Op.operands])];exact hp
 |index t x i=>simp only[hop]at hp ⊢;rw[←h x (by simp[hop,Op.operands]),←h i (by simp[hop,Op.operands])];exact hp
 |load t x=>simp only[hop]at hp ⊢;rw[←h x (by simp[hop,Op.operands])];exact NZz (fun s o' l e=>hb x (by simp[hop,Op.operands]) s o' l e) hp
 |extract x i=>simp only[hop]at hp ⊢;rw[←h x (by simp[hop,Op.operands])];exact hp
 |slice t x lo hi mx=>
  simp only[hop]at hp ⊢
  have hx:=h x (by simp[hop,Op.operands])
  have hlo:lo.map (opd E.T N o.type σ)=lo.map (opd E.T N o.type σ'):=by
   cases lo with
   |none=>rfl
   |some y=>simp only[Option.map_some];rw[h y (by simp[hop,Op.operands])]
  have hhi:hi.map (opd E.T N o.type σ)=hi.map (opd E.T N o.type σ'):=by
   cases hi with
   |none=>rfl
   |some y=>simp only[Option.map_some];rw[h y (by simp[hop,Op.operands])]
  cases mx with
  |none=>simp only at hp ⊢;rw[←hx,←hlo,←hhi];exact hp
  |some m=>simp at hp
 |nilCheck x=>simp only[hop]at hp ⊢;rw[←h x (by simp[hop,Op.operands])];exact hp
 |build t ps=>
  simp only[hop]at hp ⊢
  have:(ps.toList.map fun p=>(p.1,opd E.T N o.type σ p.2))=ps.toList.map fun p=>(p.1,opd E.T N o.type σ' p.2):=List.map_congr_left fun p hm=>by
   rw[h p.2 (by simp[hop,Op.operands];exact⟨p.1,by simpa using hm⟩)]
  rw[←this];exact hp
 |makeFunc fn first caps=>
  simp only[hop]at hp ⊢
  have:∀l:List Operand,(∀x∈l,x∈caps)→(l.mapM fun x=>FGz (opd E.T N o.type σ x))=(l.mapM fun x=>FGz (opd E.T N o.type σ' x)):=by
   intro l
   induction l with
   |nil=>intro _;rfl
   |cons y l ih=>
    intro hl
    simp only[List.mapM_cons]
    rw[h y (by simp only[hop,Op.operands];exact Array.mem_append.2 (.inr (hl y (by simp)))),ih fun z hz=>hl z (by simp[hz])]
  cases fn with
  |func g=>simp only at hp ⊢;rw[←this caps.toList fun x hx=>by simpa using hx];exact hp
  |_=>simp at hp
 |makeSlice t n m=>simp only[hop]at hp ⊢;rw[←h n (by simp[hop,Op.operands]),←h m (by simp[hop,Op.operands])];exact hp
 |buildSlice t n ps=>
  simp only[hop]at hp ⊢
  have:(ps.toList.map fun p=>(p.1,opd E.T N o.type σ p.2))=ps.toList.map fun p=>(p.1,opd E.T N o.type σ' p.2):=List.map_congr_left fun p hm=>by
   rw[h p.2 (by simp[hop,Op.operands];exact⟨p.1,by simpa using hm⟩)]
  rw[←this];exact hp
 |call c=>
  simp only[hop]at hp ⊢
  have hx:c.args.toList.map (opd E.T N o.type σ)=c.args.toList.map (opd E.T N o.type σ'):=List.map_congr_left fun x hm=>by
   rw[h x ?_]
   simp only[hop,Op.operands,Call.operands]
   have hm':x∈c.args:=by simpa using hm
   cases c.callee<;>simp[hm']
  have hx':(c.args.toList.map fun x=>opd E.T N o.type σ' x)=c.args.toList.map fun x=>opd E.T N o.type σ x:=hx.symm
  cases hc:c.callee with
  |value f=>
   have hf:=h f (by simp[hop,Op.operands,Call.operands,hc])
   simp only[hc]at hp ⊢
   rw[hx',←hf];exact hp
  |builtin b=>
   simp only[hc]at hp ⊢
   cases b<;>first
    |(simp only at hp ⊢;rw[hx'];exact hp)
    |simp at hp
  |invoke r m=>simp only[hc]at hp;simp at hp
 |_=>simp[hop]at hp
theorem N9z {E:Env} {call:CallF} {N:Nat} {o:Oper} {σ σ':St} (h:∀x∈o.op.operands,opd E.T N o.type σ x=opd E.T N o.type σ' x) (hb:∀x∈o.op.operands,∀s o' l,opd E.T N o.type σ x= .bp s o'→σ.getD s .undef= .c .box l→σ'.getD s .undef= .c .box l) {v:SV} (hp:Aoz E call N o σ=some v):Aoz E call N o σ'=some v:=by
 unfold Aoz at hp ⊢
 split at hp
 ·exact hp
 ·exact NCz h hb hp
theorem Qoz {op:Op} (h:Aez op=true):∃t,op= .alloc t:=by
 cases op<;>simp[Aez]at h
 exact⟨_,rfl⟩
theorem Gvz {E:Env} {call:CallF} {N:Nat} {o:Oper} {σ:St} (h:Aez o.op=false):Aoz E call N o σ=ALz E call N o σ:=by
 unfold Aoz
 split
 ·rename_i t e;rw[e]at h;simp[Aez]at h
 ·rfl
theorem LEz {N:Nat} {ops:Array Oper} {o:Oper} {σ σ':St} (h:∀t,t∈(match o.guard with|some (g,_)=>((ops[g]?).bind (·.dst)).toList|none=>[])→σ.getD t .undef=σ'.getD t .undef):Asz N ops o σ=Asz N ops o σ':=by
 unfold Asz
 split
 ·rfl
 ·rename_i j want hg
  simp only[hg]at h
  cases e:(ops[j]?).bind (·.dst)with
  |none=>simp only[e,Option.bind_none]
  |some t=>
   simp only[e,Option.bind_some]
   rw[h t (by simp[e])]
structure Trace (E:Env) (call:CallF) (N:Nat) (ops:Array Oper) (k n:Nat) (τ:Nat→St):Prop where
 step:∀i,k≤i→i<n→∃o w v d,ops[i]? =some o∧Asz N ops o (τ i)=some w∧o.dst=some d∧d<N∧plain ((τ i).getD d .undef)=true∧(w=true→∃v0,Aoz E call N o (τ i)=some v0∧v=drawn E.T ops.toList d v0)∧(w=false→v=skipSV)∧(Cfz v=true→Aez o.op=true)∧τ (i+1)=(τ i).set d v
theorem Mvz {E:Env} {call:CallF} {N:Nat} {ops:Array Oper}:∀(m k:Nat) {σ σ':St},Drz E call N ops (List.range' k m) σ=some σ'→∃τ,τ k=σ∧τ (k+m)=σ'∧Trace E call N ops k (k+m) τ
 |0,k,σ,σ',h=>by
  simp only[List.range'_zero,Drz]at h
  injection h with h;subst h
  exact⟨fun _=>σ,rfl,rfl,⟨fun i h1 h2=>by omega⟩⟩
 |m+1,k,σ,σ',h=>by
  simp only[List.range'_succ,Drz]at h
  split at h
  ·simp at h
  rename_i o ho
  obtain⟨w,hw,h1⟩:=AAz h
  split at h1
  ·simp at h1
  rename_i d hd
  split at h1
  case isFalse=>simp at h1
  rename_i hc
  obtain⟨v,hv,h2⟩:=AAz h1
  split at h2
  ·simp at h2
  rename_i hbx
  obtain⟨τ,e1,e2,ht⟩:=Mvz m (k+1) h2
  refine⟨fun i=>if i=k then σ else τ i,by simp,?_,⟨fun i h3 h4=> ?_⟩⟩
  ·show(if k+(m+1)=k then σ else τ (k+(m+1)))=σ'
   rw[if_neg (by omega),←e2];congr 1;omega
  ·by_cases hi:i=k
   ·subst hi
    refine⟨o,w,v,d,ho,?_,hd,hc.1,?_,?_,?_,(fun hb=>by simpa[hb]using hbx),?_⟩
    ·rw[if_pos rfl];exact hw
    ·rw[if_pos rfl];exact hc.2
    ·intro hw1;subst hw1;rw[if_pos rfl]at hv ⊢;obtain⟨v0,h8,h9⟩:=AHz hv;exact⟨v0,h8,h9.symm⟩
    ·intro hw1;subst hw1;simp at hv;exact hv.symm
    ·rw[if_neg (by omega),if_pos rfl];exact e1
   ·obtain⟨o',w',v',d',g1,g2,g3,g4,g5,g6,g7,g8,g9⟩:=ht.step i (by omega) (by omega)
    refine⟨o',w',v',d',g1,?_,g3,g4,?_,?_,g7,g8,?_⟩
    ·rw[if_neg hi];exact g2
    ·rw[if_neg hi];exact g5
    ·rw[if_neg hi];exact g6
    ·rw[if_neg (by omega),if_neg hi];exact g9
def CCz (ops:Array Oper) (i:Nat):Option Nat:=(ops[i]?).bind (·.dst)
structure Apart (ops:Array Oper) (K:Nat):Prop where
 le:K≤ops.size
 ex:∀i,i<K→∃(o:Oper) (d:Nat),ops[i]? =some o∧o.dst=some d
 edge:∀(i:Nat) (o:Oper),ops[i]? =some o→∀e∈o.after,Region.binds .any e=true→e.on<i
 ne:∀(i j:Nat) (x y:Oper) (d:Nat),i<K→j<K→ops[i]? =some x→ops[j]? =some y→i≠j→y.dst=some d→x.dst≠some d
 look:∀(i j:Nat) (x y:Oper) (d:Nat),i<K→j<K→ops[i]? =some x→ops[j]? =some y→i≠j→y.dst=some d→d∈x.looksAt ops→waits x j=true∨waits y i=true
 tail:∀i,K≤i→i<ops.size→∀j,j<i→FPz ops K j=true∨Coz ops K j=true∨j∈ancL ops i (preds ops i)
 late:∀i,FPz ops K i=true→Region.noSelect ops=true∧(∀j∈preds ops i,j∈ancL ops K (preds ops K))∧∀(j:Nat) (x y:Oper),ops[i]? =some x→ops[j]? =some y→i≠j→waits y i=true∨waits x j=true∨x.apart ops y=true
 ld:∀i,Coz ops K i=true→Region.noSelect ops=true∧(∀j∈preds ops i,Coz ops K j=true∨j∈ancL ops K (preds ops K))∧∀(j:Nat) (x y:Oper),ops[i]? =some x→ops[j]? =some y→i≠j→(j<K→Coz ops K j=true→waits y i=true∨waits x j=true∨x.apart ops y=true)∧(j=K→x.apart ops y=true)∧(K<j→i∈ancL ops j (preds ops j))
theorem Kcz {ops:Array Oper} {K i:Nat} (h:Coz ops K i=true):i<K∧i∉ancL ops K (preds ops K)∧(∃(o:Oper) (t:TypeId) (n:Nat) (ps:Array (Nat×Operand)),ops[K]? =some o∧o.op= .buildSlice t n ps∧o.guard=none)∧∃(o:Oper) (t:TypeId) (u:Operand) (c:Nat),ops[i]? =some o∧(o.op= .fieldAddr t u c∨o.op= .load t u)∧o.guard=none:=by
 unfold Coz at h
 simp only[Bool.and_eq_true,decide_eq_true_eq]at h
 refine⟨h.1.1.1,by simpa using h.2,?_,?_⟩
 ·have h1:=h.1.1.2
  split at h1
  ·rename_i e;exact⟨_,_,_,_,e,rfl,rfl⟩
  ·simp at h1
 ·have h1:=h.1.2
  split at h1
  ·rename_i e;exact⟨_,_,_,_,e,.inl rfl,rfl⟩
  ·rename_i e;exact⟨_,_,_,0,e,.inr rfl,rfl⟩
  ·simp at h1
theorem G5z {ops:Array Oper} {K i:Nat} (h:FPz ops K i=true):i<K∧K<ops.size∧∃(o:Oper) (u:Operand) (c:Nat),ops[i]? =some o∧(o.op= .extract u c∨o.op= .move u)∧o.guard=none:=by
 unfold FPz at h
 simp only[Bool.and_eq_true,decide_eq_true_eq]at h
 refine⟨h.1.1.1,h.1.1.2,?_⟩
 have h1:=h.1.2
 split at h1
 ·rename_i e;exact⟨_,_,_,e,.inl rfl,rfl⟩
 ·rename_i e;exact⟨_,_,0,e,.inr rfl,rfl⟩
 ·simp at h1
theorem Lsz (T:Tys) (ops:List Oper):∀l:List Oper,Atz T ops l≤l.length
 |[]=>Nat.le_refl _
 |o::l=>by
  simp only[Atz,List.length_cons]
  split
  ·omega
  ·have:=Lsz T ops l;omega
theorem Utz {T:Tys} {ops:Array Oper} (h0:C6z T ops=true):Apart ops (Atz T ops.toList ops.toList):=by
 unfold C6z at h0
 obtain⟨h0,hd⟩:=Bool.and_eq_true_iff.1 h0
 obtain⟨h0,hl⟩:=Bool.and_eq_true_iff.1 h0
 obtain⟨h,ht⟩:=Bool.and_eq_true_iff.1 h0
 have hle:Atz T ops.toList ops.toList≤ops.size:=by have:=Lsz T ops.toList ops.toList;simpa using this
 generalize Atz T ops.toList ops.toList=K at h ht hl hd hle ⊢
 rw[List.all_eq_true]at h ht hl hd
 have hx:∀i x,i<K→ops[i]? =some x→x.dst.isSome=true∧(x.after.all fun e=> !Region.binds .any e||decide (e.on<i))=true∧∀j,j<K→(i==j||(match ops[j]? with
   |none=>false
   |some y=>(match y.dst with
    |none=>false
    |some d=>x.dst !=some d&&(!(x.looksAt ops).contains d||waits x j||waits y i))))=true:=fun i x hi e=>by
  have h1:=h i (List.mem_range.2 hi)
  simp only[e,Bool.and_eq_true,List.all_eq_true]at h1
  exact⟨h1.1.1,h1.1.2,fun j hj=>h1.2 j (List.mem_range.2 hj)⟩
 have hy:∀i,K≤i→i<ops.size→(∀j∈preds ops i,j<i)∧∀j,j<i→FPz ops K j=true∨Coz ops K j=true∨j∈ancL ops i (preds ops i):=fun i hi hs=>by
  have h1:=ht i (List.mem_range.2 hs)
  rw[decide_eq_false (by omega),Bool.false_or,Bool.and_eq_true,List.all_eq_true,List.all_eq_true]at h1
  exact⟨fun j hj=>by simpa using h1.1 j hj,fun j hj=>by simpa[or_assoc]using h1.2 j (List.mem_range.2 hj)⟩
 refine⟨hle,fun i hi=> ?_,fun i o e ed hed hb=> ?_,fun i j x y d hi hj ei ej hij hy=> ?_,fun i j x y d hi hj ei ej hij hy hl=> ?_,fun i hi hs=>(hy i hi hs).2,fun i hi=> ?_,fun i hi=> ?_⟩
 ·obtain⟨d,hd⟩:=Option.isSome_iff_exists.1 (hx i _ hi (Array.getElem?_eq_getElem (by omega))).1
  exact⟨_,d,Array.getElem?_eq_getElem (by omega),hd⟩
 ·by_cases hi:i<K
  ·have h1:=Array.all_eq_true_iff_forall_mem.1 (hx i o hi e).2.1 ed hed
   simp only[hb,Bool.not_true,Bool.false_or,decide_eq_true_eq]at h1
   exact h1
  ·refine(hy i (by omega) (Array.getElem?_eq_some_iff.1 e).1).1 _ ?_
   unfold preds
   rw[e]
   exact List.mem_map.2 ⟨ed,List.mem_filter.2 ⟨by simpa using hed,hb⟩,rfl⟩
 ·have h1:=(hx i x hi ei).2.2 j hj
  simp only[ej,hy,Bool.or_eq_true,Bool.and_eq_true,beq_iff_eq,hij,false_or]at h1
  simpa using h1.1
 ·have h1:=(hx i x hi ei).2.2 j hj
  simp only[ej,hy,Bool.or_eq_true,Bool.and_eq_true,beq_iff_eq,hij,false_or]at h1
  rcases h1.2 with(h2|h2)|h2
  ·simp[hl]at h2
  ·exact .inl h2
  ·exact .inr h2
 ·obtain⟨h1,h2,o,u,c,ho,_⟩:=G5z hi
  have h3:=hl i (List.mem_range.2 (Array.getElem?_eq_some_iff.1 ho).1)
  rw[hi,Bool.not_true,Bool.false_or]at h3
  simp only[Bool.and_eq_true,List.all_eq_true]at h3
  refine⟨h3.1.1,fun j hj=>by simpa using h3.1.2 j hj,fun j x y hx hy hij=> ?_⟩
  have h4:=h3.2 j (List.mem_range.2 (Array.getElem?_eq_some_iff.1 hy).1)
  simp only[hx,hy,Bool.or_eq_true,beq_iff_eq,hij,false_or]at h4
  rcases h4 with(h4|h4)|h4
  ·exact .inl h4
  ·exact .inr (.inl h4)
  ·exact .inr (.inr h4)
 ·obtain⟨h1,_,_,o,_,u,c,ho,_⟩:=Kcz hi
  have h3:=hd i (List.mem_range.2 (Array.getElem?_eq_some_iff.1 ho).1)
  rw[hi,Bool.not_true,Bool.false_or]at h3
  simp only[Bool.and_eq_true,List.all_eq_true]at h3
  refine⟨h3.1.1,fun j hj=>by simpa using h3.1.2 j hj,fun j x y hx hy hij=> ?_⟩
  have h4:=h3.2 j (List.mem_range.2 (Array.getElem?_eq_some_iff.1 hy).1)
  simp only[hx,hy,Bool.or_eq_true,beq_iff_eq,hij,false_or]at h4
  refine⟨fun hj hl=> ?_,fun hj=> ?_,fun hj=> ?_⟩
  ·rw[if_pos hj,hl]at h4
   simpa[or_assoc]using h4
  ·rw[if_neg (by omega),if_pos hj]at h4;exact h4
  ·rw[if_neg (by omega),if_neg (by omega)]at h4;simpa using h4
end Go.Proofs.YtblelojdboefjaaGreatDoor.R
namespace Go.Proofs.YtblelojdboefjaaGreatDoor.R
open Go
theorem Ffz {X X':Ctx} {d:Nat} {u:Value} {v:SV} (T:Tys) (ops:List Oper) (h:PureRes X X' d u v) (hf:∀p,Free X d p):∃X'',X''.w=X'.w∧PureRes X X'' d u (drawn T ops d v):=by
 unfold drawn
 split
 case isFalse=>exact⟨X',rfl,h⟩
 unfold Lbz
 split
 case h_2=>exact⟨X',rfl,h⟩
 rename_i f es rows
 refine⟨X'.retag d 0 (fun _ _ _=>none) True,rfl,⟨h.goes.trans (CTz X' d 0 _ True),⟨fun f b hb=>⟨(AOz.V f b (h.mono.V f b hb).1).1,(h.mono.V f b hb).2⟩,fun b t hb=>⟨?_,(h.mono.own b t hb).2⟩⟩,h.inv.retag (fun _ _ _ _ _ _ _ _ e=>by simp at e) (fun _ _ _ _ _ _ _ _ _ _ _ _ _ _ _ _ _ e=>by simp at e),fun b t hb=> ?_,?_,fun b p q base tip hb=> ?_,fun b q base tip hb=> ?_⟩⟩
 ·obtain⟨s1,p1,q1,b1,t1⟩:=t
  refine BEz (h.mono.own b _ hb).1 fun e=> ?_
  obtain⟨e1,e2⟩:=e
  subst e1;subst e2
  exact hf 0 b q1 b1 t1 hb
 ·rcases Akz hb with⟨h1,_⟩|⟨_,_,_,_,h1⟩
  ·exact h.new b t h1
  ·simp at h1
 ·cases h.rel with
  |c _ _ ws _ hfl hc=>
   refine .c _ _ ws _ ?_ ?_
   ·cases hfl with|one _ hn=>exact .one _ hn
   ·cases hc with
    |cons _ _ _ vs _ h1 ht=>
     cases ht
     exact .cons _ _ _ _ _ (.sh f _ _ (Okz trivial (fun _ _ _=>rfl) h1)) (.nil _)
 ·rcases Akz hb with⟨h1,h2⟩|⟨_,_,_,_,h1⟩
  ·rcases h.tag b p q base tip h1 with h3|h3
   ·exact .inl h3
   ·cases p with
    |zero=>exact absurd ⟨rfl,rfl⟩ h2
    |succ p=>simp[C1z,CV.isOw]at h3
  ·simp at h1
 ·rcases Akz hb with⟨h1,_⟩|⟨_,_,_,_,h1⟩
  ·rcases h.tagb b q base tip h1 with h3|⟨l,h3⟩
   ·exact .inl h3
   ·simp at h3
  ·simp at h1
section
variable {E:Env} {call:CallF} {N:Nat} {ops:Array Oper} {τ:Nat→St} {K:Nat}
theorem HTz:∀{L M:List Nat},L.Nodup→(∀a∈L,a∈M)→L.length≤M.length
 |[],_,_,_=>Nat.zero_le _
 |a::L,M,hn,hm=>by
  have ha:=hm a (by simp)
  have h2:L.length≤(M.erase a).length:=HTz (List.nodup_cons.1 hn).2 fun b hb=>by
   refine(List.mem_erase_of_ne ?_).2 (hm b (by simp[hb]))
   rintro rfl
   exact(List.nodup_cons.1 hn).1 hb
  have h3:=List.length_erase_of_mem ha
  have h4:0<M.length:=List.length_pos_of_mem ha
  simp only[List.length_cons]
  omega
theorem Dlz {i d:Nat} {o:Oper} (h:ops[i]? =some o) (hd:o.dst=some d):CCz ops i=some d:=by simp[CCz,h,hd]
theorem Giz {i d:Nat} (h:CCz ops i=some d):∃o,ops[i]? =some o∧o.dst=some d:=by
 unfold CCz at h
 exact AAz h
theorem EYz (hA:Apart ops K) {i j d:Nat} (hi:i<K) (hj:j<K) (h:CCz ops i=some d) (h':CCz ops j=some d):i=j:=by
 obtain⟨x,hx,hdx⟩:=Giz h
 obtain⟨y,hy,hdy⟩:=Giz h'
 by_cases e:i=j
 ·exact e
 ·exact absurd hdx (hA.ne i j x y d hi hj hx hy e hdy)
theorem Loz (hT:Trace E call N ops 0 K τ):∀i,i≤K→(τ i).length=(τ 0).length
 |0,_=>rfl
 |i+1,h=>by
  obtain⟨o,w,v,d,_,_,_,_,_,_,_,_,e⟩:=hT.step i (Nat.zero_le _) (by omega)
  rw[e,List.length_set]
  exact Loz hT i (by omega)
theorem CZz (hT:Trace E call N ops 0 K τ) {t:Nat}:∀i,i≤K→(∀j,j<i→CCz ops j≠some t)→(τ i)[t]? =(τ 0)[t]?
 |0,_,_=>rfl
 |i+1,h,hn=>by
  obtain⟨o,w,v,d,ho,_,hd,_,_,_,_,_,e⟩:=hT.step i (Nat.zero_le _) (by omega)
  have hne:d≠t:=fun e1=>hn i (by omega) (by subst e1;exact Dlz ho hd)
  rw[e,List.getElem?_set_ne hne]
  exact CZz hT i (by omega) fun j hj=>hn j (by omega)
theorem Goz (hT:Trace E call N ops 0 K τ) (hA:Apart ops K) {t j:Nat} (hj:CCz ops j=some t):∀(m:Nat),j+1+m≤K→(τ (j+1+m))[t]? =(τ (j+1))[t]?
 |0,_=>rfl
 |m+1,h=>by
  obtain⟨o,w,v,d,ho,_,hd,_,_,_,_,_,e⟩:=hT.step (j+1+m) (Nat.zero_le _) (by omega)
  have hne:d≠t:=fun e1=>by
   subst e1
   have:=EYz hA (by omega) (by omega) (Dlz ho hd) hj
   omega
  have e2:j+1+(m+1)=j+1+m+1:=by omega
  rw[e2,e,List.getElem?_set_ne hne]
  exact Goz hT hA hj m (by omega)
theorem Fvz (hT:Trace E call N ops 0 K τ) (hA:Apart ops K) {t j i:Nat} (hj:CCz ops j=some t) (hi:j<i) (hn:i≤K):(τ i)[t]? =(τ K)[t]? :=by
 have h1:=Goz hT hA hj (i - (j+1)) (by omega)
 have h2:=Goz hT hA hj (K - (j+1)) (by omega)
 rw[show j+1+(i - (j+1))=i from by omega]at h1
 rw[show j+1+(K - (j+1))=K from by omega]at h2
 rw[h1,h2]
theorem RVz (hT:Trace E call N ops 0 K τ) (hA:Apart ops K) {i d:Nat} {v:SV} (hi:i<K) (hd:CCz ops i=some d) (e:τ (i+1)=(τ i).set d v) (hlt:d<(τ 0).length):(τ K)[d]? =some v:=by
 rw[←Fvz hT hA hd (Nat.lt_succ_self i) hi,e,List.getElem?_set_self (by rw[Loz hT i (by omega)];exact hlt)]
structure Mid (ops:Array Oper) (K:Nat) (τ:Nat→St) (listed:Array Bool) (σ:St):Prop where
 size:listed.size=ops.size
 len:σ.length=(τ 0).length
 low:∀i,listed.getD i false=true→i<K
 closed:∀(i:Nat) (o:Oper),listed.getD i false=true→ops[i]? =some o→∀e∈o.after,Region.binds .any e=true→listed.getD e.on false=true
 done:∀(t j:Nat),listed.getD j false=true→CCz ops j=some t→σ[t]? =(τ K)[t]?
 rest:∀(t:Nat),(∀j,listed.getD j false=true→CCz ops j≠some t)→σ[t]? =(τ 0)[t]?
theorem Gfz {listed:Array Bool} {i j:Nat} (h:(listed.setIfInBounds i true).getD j false=true):j=i∨listed.getD j false=true:=by
 by_cases e:i=j
 ·exact .inl e.symm
 ·rw[getD_set_ne false e]at h;exact .inr h
theorem Piz (hT:Trace E call N ops 0 K τ) {listed:Array Bool} {σ:St} (M:Mid ops K τ listed σ) (h:∀i,i<K→listed.getD i false=true):σ=τ K:=by
 apply List.ext_getElem?
 intro t
 by_cases hx:∃j,j<K∧CCz ops j=some t
 ·obtain⟨j,hjk,hj⟩:=hx
  exact M.done t j (h j hjk) hj
 ·have hn:∀j,j<K→CCz ops j≠some t:=fun j hj e=>hx ⟨j,hj,e⟩
  rw[M.rest t fun j hj=>hn j (M.low j hj),CZz hT K (Nat.le_refl _) hn]
theorem G9z {σ σ':St} {t:Nat} (h:σ[t]? =σ'[t]?):σ.getD t .undef=σ'.getD t .undef:=by
 rw[List.getD_eq_getElem?_getD,List.getD_eq_getElem?_getD,h]
theorem T9z (hT:Trace E call N ops 0 K τ) (hA:Apart ops K) {listed:Array Bool} {σ:St} (M:Mid ops K τ listed σ) {i:Nat} {x:Oper} (hi:i<K) (hx:ops[i]? =some x) (hun:listed.getD i false=false)
  (hr:∀e∈x.after,Region.binds .any e=true→listed.getD e.on false=true) {t:Nat} (hl:t∈x.looksAt ops∨x.dst=some t∨∀j,j<K→CCz ops j≠some t):(τ i)[t]? =σ[t]? :=by
 have hlater:∀j,j<K→CCz ops j=some t→i≤j→listed.getD j false=false→(τ i)[t]? =σ[t]? :=fun j hjk hj hij hnj=>by
  rw[CZz hT i (by omega) fun j' h' e=>by have:=EYz hA (by omega) hjk e hj;omega,M.rest t fun j' h' e=>by
   have:=EYz hA (M.low _ h') hjk e hj
   subst this
   rw[hnj]at h';simp at h']
 by_cases hex:∃j,j<K∧CCz ops j=some t
 case neg=>
  have hn:∀j,j<K→CCz ops j≠some t:=fun j hj e=>hex ⟨j,hj,e⟩
  rw[CZz hT i (by omega) fun j hj=>hn j (by omega),M.rest t fun j hj=>hn j (M.low j hj)]
 obtain⟨j,hjk,hj⟩:=hex
 obtain⟨y,hy,hdy⟩:=Giz hj
 by_cases hij:i=j
 ·subst hij;exact hlater i hi hj (Nat.le_refl _) hun
 rcases hl with hl|hl|hl
 ·rcases hA.look i j x y t hi hjk hx hy hij hdy hl with h1|h1
  ·unfold waits at h1
   obtain⟨e,he,hb⟩:=Array.any_eq_true'.1 h1
   simp only[Bool.and_eq_true,beq_iff_eq]at hb
   have hlj:=hr e he hb.1
   rw[hb.2]at hlj
   have hlt:=hA.edge i x hx e he hb.1
   rw[hb.2]at hlt
   rw[M.done t j hlj hj,Fvz hT hA hj hlt (by omega)]
  ·unfold waits at h1
   obtain⟨e,he,hb⟩:=Array.any_eq_true'.1 h1
   simp only[Bool.and_eq_true,beq_iff_eq]at hb
   have hlt:=hA.edge j y hy e he hb.1
   rw[hb.2]at hlt
   refine hlater j hjk hj (by omega) ?_
   cases hc:listed.getD j false with
   |false=>rfl
   |true=>
    have:=M.closed j y hc hy e he hb.1
    rw[hb.2,hun]at this;simp at this
 ·exact absurd (EYz hA hjk hi hj (Dlz hx hl)).symm hij
 ·exact absurd hj (hl j hjk)
theorem NDz {x:SV} (h:plain x=true):∀l,x≠ .c .box l:=fun l e=>by subst e;simp[plain]at h
theorem Vfz (hT:Trace E call N ops 0 K τ) (hA:Apart ops K) {listed:Array Bool} {σ:St} (M:Mid ops K τ listed σ) {i s:Nat} (hi:i<K) {l:List CV} (h:(τ i).getD s .undef= .c .box l) (hs:∃l',σ[s]? =some (.c .box l')):σ.getD s .undef= .c .box l:=by
 by_cases hex:∃j,j<K∧CCz ops j=some s
 case neg=>
  have hn:∀j,j<K→CCz ops j≠some s:=fun j hj e=>hex ⟨j,hj,e⟩
  rw[←h]
  exact G9z (by rw[CZz hT i (by omega) fun j hj=>hn j (by omega),M.rest s fun j hj=>hn j (M.low j hj)])
 obtain⟨j,hjk,hj⟩:=hex
 obtain⟨y,hy,hdy⟩:=Giz hj
 obtain⟨o,w,v,d,ho,_,hd,_,hp,_,_,hnb,e⟩:=hT.step j (Nat.zero_le _) hjk
 have hds:d=s:=by have:=(Dlz ho hd).symm.trans hj;injection this
 subst hds
 have hp0:∀l',(τ 0)[d]? ≠some (.c .box l'):=fun l' e0=>by
  have h1:(τ j)[d]? =(τ 0)[d]? :=CZz hT j (by omega) fun j' h' e=>by have:=EYz hA (by omega) hjk e hj;omega
  rw[List.getD_eq_getElem?_getD,h1,e0]at hp
  simp[plain]at hp
 have hlj:listed.getD j false=true:=by
  cases hc:listed.getD j false with
  |true=>rfl
  |false=>
   obtain⟨l',hl'⟩:=hs
   rw[M.rest d fun j' h' e=>by
    have:=EYz hA (M.low _ h') hjk e hj
    subst this
    rw[hc]at h';simp at h']at hl'
   exact absurd hl' (hp0 l')
 have hij:j<i:=by
  by_cases hlt:j<i
  ·exact hlt
  ·exfalso
   have h1:(τ i)[d]? =(τ 0)[d]? :=CZz hT i (by omega) fun j' h' e=>by have:=EYz hA (by omega) hjk e hj;omega
   rw[List.getD_eq_getElem?_getD,h1]at h
   cases e0:(τ 0)[d]? with
   |none=>rw[e0]at h;simp at h
   |some z=>rw[e0]at h;simp at h;exact hp0 l (by rw[e0,h])
 rw[←h]
 exact G9z (by rw[M.done d j hlj hj,Fvz hT hA hj hij (by omega)])
theorem KMz {σ:St} {d p:Nat} (h:plain (σ.getD d .undef)=true):(ABz σ d p).isOw=false:=by
 unfold ABz
 generalize σ.getD d .undef=x at h
 cases x with
 |c sh l=>
  have:∀c∈l,c.isOw=false:=fun c hc=>by
   cases sh with
   |box=>simp[plain]at h
   |_=>simp only[plain,List.all_eq_true,Bool.not_eq_true']at h;exact h c hc
  cases e:l[p]? with
  |none=>simp[List.getD_eq_getElem?_getD,e,CV.isOw]
  |some c=>simp[List.getD_eq_getElem?_getD,e];exact this c (List.mem_of_getElem? e)
 |_=>rfl
theorem QWz {X:Ctx} {vs:List Value} {σ:St} (hg:Good X vs σ NoE) {d:Nat} (h:plain (σ.getD d .undef)=true):Bare X σ d:=by
 have hbx:∀l,σ[d]? ≠some (.c .box l):=fun l e=>NDz h l (by rw[List.getD_eq_getElem?_getD,e];rfl)
 refine⟨fun p=>Dzz hg (KMz h),fun b q base tip e=> ?_,fun p=>KMz h,hbx⟩
 obtain⟨l,hl⟩:=hg.tags.box _ _ _ _ _ e
 exact hbx l hl
theorem Bxz {listed:Array Bool} {i:Nat} (h:i<listed.size):listed.getD i true=listed.getD i false:=by simp[h]
theorem Esz {listed:Array Bool} (hc:∀(i:Nat) (o:Oper),listed.getD i false=true→ops[i]? =some o→∀e∈o.after,Region.binds .any e=true→listed.getD e.on false=true):
  ∀(n:Nat) (l:List Nat),(∀j∈l,listed.getD j false=true)→∀j∈ancL ops n l,listed.getD j false=true
 |0,l,h,j,hj=>h j hj
 |n+1,l,h,j,hj=>by
  simp only[ancL]at hj
  split at hj
  ·rename_i hn
   refine Esz hc n _ (fun k hk=> ?_) j hj
   rcases List.mem_append.1 hk with h1|h1
   ·unfold preds at h1
    split at h1
    ·rename_i o ho
     obtain⟨e,he,rfl⟩:=List.mem_map.1 h1
     have he:=List.mem_filter.1 he
     exact hc n o (h n (by simpa using hn)) ho e (by simpa using he.1) he.2
    ·simp at h1
   ·exact h k h1
  ·exact Esz hc n l h j hj
theorem PXz {P:Program} (hTO:TOk P E.T) (hcall:Bvz P call) (hA:Apart ops K) {gv:List Value} {Q:Exit→Act→World→Prop}:∀(m fuel:Nat) {listed:Array Bool} {X:Ctx} {a:Act} {σ σ':St} {i:Nat},ops.size - i=m→m≤fuel→i≤ops.size→K≤i→listed.size=ops.size→
  (∀j,listed.getD j false=true↔j<i)→
  Good X (All a gv) σ NoE→N=a.tmps.size→AYz E call N ops (List.range' i (ops.size - i)) σ=some σ'→(∀a' X',Goes X X'→Good X' (All a' gv) σ' NoE→a'.tmps.size=N→a'.defers=a.defers→Q .normal a' X'.w)→wpAny P .any ops Q fuel listed a X.w:=by
 intro m
 induction m with
 |zero=>
  intro fuel listed X a σ σ' i hm hf hi hK hsz hl hg hN h hQ
  have hii:i=ops.size:=by omega
  subst hii
  rw[Nat.sub_self]at h
  simp only[List.range'_zero,AYz]at h
  injection h with h;subst h
  refine wpAny_done ?_ (hQ a X (.refl X) hg hN.symm rfl) fuel
  cases hr:Region.ready .any ops listed with
  |nil=>rfl
  |cons k l=>
   have hm:k∈Region.ready .any ops listed:=by rw[hr];simp
   obtain⟨h1,o,ho,_⟩:=mem_ready.1 hm
   have hk:=(Array.getElem?_eq_some_iff.1 ho).1
   rw[Bxz (by rw[hsz];exact hk),(hl k).2 hk]at h1
   simp at h1
 |succ m ih=>
  intro fuel listed X a σ σ' i hm hf hi hK hsz hl hg hN h hQ
  obtain⟨fuel,rfl⟩:∃n,fuel=n+1:=⟨fuel - 1,by omega⟩
  have hlt:i<ops.size:=by omega
  have hready:i∈Region.ready .any ops listed:=mem_ready.2 ⟨by
    rw[Bxz (by rw[hsz];exact hlt)]
    cases hc:listed.getD i false with
    |false=>rfl
    |true=>exact absurd ((hl i).1 hc) (Nat.lt_irrefl i),_,Array.getElem?_eq_getElem hlt,fun e he hb=>(hl _).2 (hA.edge i _ (Array.getElem?_eq_getElem hlt) e he hb)⟩
  refine⟨fun hr=>(by rw[hr]at hready;simp at hready),fun k hk=> ?_⟩
  obtain⟨h1,x,hx,hed⟩:=mem_ready.1 hk
  have hks:=(Array.getElem?_eq_some_iff.1 hx).1
  rw[Bxz (by rw[hsz];exact hks)]at h1
  have hge:i≤k:=Nat.le_of_not_lt fun hh=>by rw[(hl k).2 hh]at h1;simp at h1
  have hki:k=i:=by
   by_cases hh:k=i
   ·exact hh
   ·exfalso
    have hanc:=Esz (ops:=ops) (listed:=listed) (fun j o hj ho e he hb=>(hl _).2 (by
     have:=hA.edge j o ho e he hb
     have:=(hl j).1 hj
     omega)) k (preds ops k) (fun j hj=>by
      unfold preds at hj
      rw[hx]at hj
      obtain⟨e,he,rfl⟩:=List.mem_map.1 hj
      have he:=List.mem_filter.1 he
      exact hed e (by simpa using he.1) he.2) i (((hA.tail k (by omega) hks i (by omega)).resolve_left fun hh=>by have:=(G5z hh).1;omega).resolve_left fun hh=>by have:=(Kcz hh).1;omega)
    exact absurd ((hl i).1 hanc) (Nat.lt_irrefl i)
  subst hki
  have e1:ops.size - k=(ops.size - (k+1))+1:=by omega
  rw[e1,List.range'_succ]at h
  simp only[AYz,hx]at h
  obtain⟨w,hw,h⟩:=AAz h
  obtain⟨σ1,h2,h3⟩:=AAz h
  have hsz':k<listed.size:=by rw[hsz];exact hlt
  have hl':∀j,(listed.setIfInBounds k true).getD j false=true↔j<k+1:=fun j=>by
   by_cases hjk:k=j
   ·subst hjk;simp[hsz']
   ·rw[getD_set_ne false hjk,hl j];omega
  have hK':∀a' X',Goes X X'→Good X' (All a' gv) σ1 NoE→a'.tmps.size=N→a'.defers=a.defers→wpAny P .any ops Q fuel (listed.setIfInBounds k true) a' X'.w:=fun a' X' G hg' hs hd=>
   ih fuel (by omega) (by omega) (by omega) (by omega) (by simp[hsz]) hl' hg' hs.symm h3 fun a'' X'' G' hg'' hs' hd'=>hQ a'' X'' (G.trans G') hg'' hs' (hd'.trans hd)
  unfold wpOp
  simp only[hx]
  rw[DZz hg hN hw]
  cases w with
  |true=>
   simp only[if_true]at h2 ⊢
   exact .inl (Ixz hTO hcall hg hN h2 hK')
  |false=>
   simp only[Bool.false_eq_true,if_false]at h2 ⊢
   split at h2
   case isFalse=>simp at h2
   rename_i hdok
   injection h2 with h2;subst h2
   obtain⟨X',hw',G,hg'⟩:=LKz hg hN hdok
   rw[←hw']
   exact hK' _ X' G hg' (by rw[Eyz];exact hN.symm) (Dtz a x.dst undef)
def Doz (P:Program) (ops:Array Oper) (o:Oper) (v:Value) (w0:World) (a:Act) (w:World):Prop:=
 Region.wanted o (yielded ops a.tmps)=true∧Ext w0 w∧∀w,Ext w0 w→(execOp a.eval o).run P w= .ok (.value v) w
def Stays (P:Program) (o:Oper):Prop:=∀ρ w n w',(execOp ρ o).run P w= .ok n w'→(∃u,n= .value u)∧Ext w w'
theorem Ext.trans {w w' w'':World} (h:Ext w w') (h':Ext w' w''):Ext w w'':=fun b o e=>h' b o (h b o e)
theorem JYz {α β:Type} {r:Result α} {f:α→World→Result β} {b:β} {w':World} (h:r.andThen f= .ok b w'):∃a w1,r= .ok a w1∧f a w1= .ok b w':=by
 cases r with
 |ok a w1=>exact⟨a,w1,rfl,h⟩
 |halt x w1=>cases h
def Grows {α:Type} (P:Program) (m:Sem α):Prop:=∀w v w',m.run P w= .ok v w'→Ext w w'
theorem Grows.pure {α:Type} {P:Program} (a:α):Grows P (Pure.pure a:Sem α):=fun w v w' h=>by cases h;exact .refl _
theorem Grows.bind {α β:Type} {P:Program} {m:Sem α} {f:α→Sem β} (h:Grows P m) (h':∀a,Grows P (f a)):Grows P (m>>=f):=fun w v w' e=>by
 rw[Sem.run_bind]at e
 obtain⟨a,w1,e1,e2⟩:=JYz e
 exact(h _ _ _ e1).trans (h' _ _ _ _ e2)
theorem Grows.halt {α:Type} {P:Program} (x:Halt):Grows P (.halt x:Sem α):=fun w v w' h=>by cases h
theorem Grows.program {P:Program}:Grows P program:=fun w v w' h=>by cases h;exact .refl _
theorem Grows.new {P:Program} (o:Obj):Grows P (newObj o):=fun w v w' h=>by
 cases h
 intro b ob hb
 have:=(Array.getElem?_eq_some_iff.1 hb).1
 simp only
 rw[Array.getElem?_push_lt (by assumption)]
 rw[Array.getElem?_eq_getElem this]at hb
 exact hb
theorem Grows.lit {P:Program} {t:TypeId} {n:Nat} {ps:Array (Nat×Value)}:Grows P (Instr.buildSlice t n ps):=by
 have hu:∀t,Grows P (underlying t):=fun t=>Grows.program.bind fun p=>by
  split
  ·exact .pure _
  ·exact .halt _
 have hi:∀t,Grows P (typeInfo t):=fun t=>Grows.program.bind fun p=>by
  split
  ·exact .pure _
  ·exact .halt _
 unfold Instr.buildSlice
 refine(hu t).bind fun d=> ?_
 split
 ·rename_i elem
  refine Grows.bind ((hi _).bind fun _=> .pure _) fun size=> ?_
  have rest:∀z:Array Value,Grows P (match Instr.fill (fun i=>some (i*size,size)) ((Array.range (n*size)).map (z[· % z.size]!)) ps.toList with
   |some cells=>((newRow elem cells)>>=fun a=>Pure.pure (Value.slice (some a) n n):Sem Value)
   |_=>stuck "buildSlice: a part of the wrong size"):=fun z=>by
   split
   ·exact Grows.bind (Grows.bind (.new _) fun _=> .pure _) fun _=> .pure _
   ·exact .halt _
  have hz:Grows P (zeroValue elem):=(hi _).bind fun i=>by
   split
   ·exact .pure _
   ·exact .halt _
  have rest2:Grows P (if n*size=0 then(do let zero ←Pure.pure (#[]:Array Value);(match Instr.fill (fun i=>some (i*size,size)) ((Array.range (n*size)).map (zero[· % zero.size]!)) ps.toList with
   |some cells=>((newRow elem cells)>>=fun a=>Pure.pure (Value.slice (some a) n n):Sem Value)
   |_=>stuck "buildSlice: a part of the wrong size"))else(do let v ←zeroValue elem;let zero ←(Pure.pure v.cells:Sem (Array Value));(match Instr.fill (fun i=>some (i*size,size)) ((Array.range (n*size)).map (zero[· % zero.size]!)) ps.toList with
   |some cells=>((newRow elem cells)>>=fun a=>Pure.pure (Value.slice (some a) n n):Sem Value)
   |_=>stuck "buildSlice: a part of the wrong size"))):=by
   split
   ·exact Grows.bind (.pure _) fun z=>rest z
   ·exact Grows.bind hz fun _=>Grows.bind (.pure _) fun z=>rest z
  by_cases h1:n*size>2^24
  ·simp only[if_pos h1]
   exact Grows.bind (.halt _) fun _=>rest2
  ·simp only[if_neg h1]
   exact rest2
 ·exact .halt _
theorem Jbz {P:Program} {o:Oper} (h:∀ρ,∃m:Sem Value,execOp ρ o=(do pure (Next.value (←m)):Sem Next)∧Grows P m):Stays P o:=fun ρ w n w' e=>by
 obtain⟨m,h1,h2⟩:=h ρ
 rw[h1,Sem.run_bind]at e
 obtain⟨u,w1,e1,e2⟩:=JYz e
 cases e2
 exact⟨⟨u,rfl⟩,h2 _ _ _ e1⟩
theorem Rmz {P:Program} {o:Oper} {t:TypeId} {n:Nat} {ps:Array (Nat×Operand)} (h:o.op= .buildSlice t n ps):Stays P o:=
 Jbz fun ρ=>⟨Instr.buildSlice t n (ps.map fun x=>(x.1,ρ x.2)),by unfold execOp;simp only[h],Grows.lit⟩
theorem Grows.load {P:Program} (a:Addr):Grows P (load a):=fun w v w' h=>by
 unfold Go.load at h
 simp only[Sem.run]at h
 split at h
 ·cases h;exact .refl _
 ·split at h
  ·cases h;exact .refl _
  ·cases h
theorem Grows.cells {P:Program} (a:Addr):∀(n i:Nat) (acc:Array Value),Grows P (loadCellsFrom a i n acc)
 |0,i,acc=> .pure _
 |n+1,i,acc=>Grows.bind (.load _) fun v=>Grows.cells a n (i+1) _
theorem Tdz {P:Program} {o:Oper} {t:TypeId} {u:Operand} {c:Nat} (h:o.op= .fieldAddr t u c∨o.op= .load t u):Stays P o:=by
 have hu:∀t,Grows P (underlying t):=fun t=>Grows.program.bind fun p=>by
  split
  ·exact .pure _
  ·exact .halt _
 have hi:∀t,Grows P (typeInfo t):=fun t=>Grows.program.bind fun p=>by
  split
  ·exact .pure _
  ·exact .halt _
 have hs:∀v,Grows P (Instr.sureAddr v):=fun v=>by
  unfold Instr.sureAddr
  split
  ·exact .pure _
  ·exact .halt _
 have hby:∀a,Grows P (byteOf a):=fun a=>by
  unfold byteOf
  split
  ·exact .pure _
  ·refine Grows.program.bind fun p=> ?_
   refine Grows.bind ?_ fun _=>Grows.bind ?_ fun sh=> ?_
   ·unfold noView
    refine Grows.bind ?_ fun _=> ?_
    ·unfold viewAt
     refine Grows.bind (fun w v w' e=>by cases e;exact .refl _) fun sh=> ?_
     split
     ·exact .pure _
     ·refine Grows.bind (fun w v w' e=> ?_) fun ob=>by split<;>exact .pure _
      unfold getObj at e
      simp only[Sem.run]at e
      split at e<;>first|(cases e;exact .refl _)|cases e
    ·split<;>first|exact .pure _|exact .halt _
   ·intro w v w' e
    cases e
    exact .refl _
   ·split
    ·rename_i e0 _
     show Grows P (if p.cellsOf e0=0 then Pure.pure 0 else _)
     split
     ·exact .pure _
     ·split
      ·exact .pure _
      ·exact .halt _
    ·exact .halt _
 rcases h with h|h
 ·refine Jbz fun ρ=>⟨Instr.fieldAt t (ρ u) c,by unfold execOp;simp only[h],?_⟩
  unfold Instr.fieldAt
  refine(hu t).bind fun d=> ?_
  split
  ·split
   ·refine(hs _).bind fun a=>Grows.bind ?_ fun _=> .pure _
    unfold fieldPlace
    refine Grows.bind ((hi _).bind fun _=> .pure _) fun n=> ?_
    split
    ·unfold partAt
     refine(hby a).bind fun b=> ?_
     exact(hby _).bind fun b=> .pure _
    ·exact .pure _
   ·exact .halt _
  ·exact .halt _
 ·refine Jbz fun ρ=>⟨Instr.loadAt t (ρ u),by unfold execOp;simp only[h],?_⟩
  unfold Instr.loadAt
  refine(hs _).bind fun a=> ?_
  unfold loadVar
  refine Grows.bind ((hu t).bind fun d=>by split<;>exact .pure _) fun b=> ?_
  split
  ·exact Grows.bind ((hi _).bind fun _=> .pure _) fun n=>Grows.bind (Grows.cells _ _ _ _) fun _=> .pure _
  ·exact .load _
theorem RMz {P:Program} {Q:Exit→Act→World→Prop} {j:Nat} {oi oj:Oper} {v:Value} {w0:World} (hj:ops[j]? =some oj) (hap:oi.apart ops oj=true) (hst:Stays P oj)
  (hsi:∀cs b,oi.op≠ .select cs b) (hsj:∀cs b,oj.op≠ .select cs b)
  (hQ:∀c a w,Q (.panic c) (a.put oi.dst v) w→Q (.panic c) a w) {K:Act→World→Prop} {a:Act} {w:World}
  (hy:Doz P ops oi v w0 a w) (h:wpOp P ops Q j K (a.put oi.dst v) w):
  wpOp P ops Q j (fun a' w'=>Doz P ops oi v w0 a' w'∧K (a'.put oi.dst v) w') a w:=by
 obtain⟨h1,h2,h3⟩:=Oper.apart_spec hap
 have keep:∀(a:Act) (w w':World),Doz P ops oi v w0 a w→Ext w w'→∀u,Doz P ops oi v w0 (a.put oj.dst u) w':=fun a w w' hy he u=>by
  unfold Doz at hy ⊢
  rw[execOp_put oi hsi a oj.dst u h3,wanted_put oi a oj.dst u h3]
  exact⟨hy.1,hy.2.1.trans he,hy.2.2⟩
 unfold wpOp at *
 simp only[hj]at *
 rw[wanted_put oj a oi.dst v h1]at h
 split
 ·rename_i hw
  simp only[hw,if_true]at h
  rcases h with h|⟨hasks,hlets⟩
  case inr=>exact .inr ⟨by unfold Oper.asks at *;rw[execOp_put oj hsj a oi.dst v h1]at hasks;exact hasks,hlets⟩
  refine .inl ?_
  unfold Oper.wp at *
  rw[execOp_put oj hsj a oi.dst v h1]at h
  have hst':=hst a.eval w
  generalize(execOp a.eval oj).run P w=r at *
  cases r with
  |ok n w'=>
   obtain⟨⟨u,rfl⟩,he⟩:=hst' n w' rfl
   simp only[Oper.upon]at h ⊢
   exact⟨keep a w w' hy he u,by rw[←Act.put_comm a v u h2];exact h⟩
  |halt x w'=>
   cases x<;>simp only[Oper.upon]at h ⊢
   case panic u=>exact hQ _ _ _ h
 ·rename_i hw
  simp only[hw]at h
  exact⟨keep a w w hy (.refl _) _,by rw[←Act.put_comm a v undef h2];exact h⟩
theorem TBz {l:List Nat} {n i:Nat} (h:i∈l):i∈ancL ops n l:=by
 induction n generalizing l with
 |zero=>exact h
 |succ n ih=>
  unfold ancL
  refine ih ?_
  split
  ·exact List.mem_append_right _ h
  ·exact h
theorem Mnz {P:Program} {Q:Exit→Act→World→Prop} {i:Nat} {oi:Oper} {v:Value} {w0:World} (hi:ops[i]? =some oi) (hsel:∀(j:Nat) (o:Oper) cs b,ops[j]? =some o→o.op≠ .select cs b)
  (hQ:∀c a w,Q (.panic c) (a.put oi.dst v) w→Q (.panic c) a w):
  ∀(fuel:Nat) (listed:Array Bool) (a:Act) (w:World),(∀(i:Nat) (o:Oper),listed.getD i false=true→ops[i]? =some o→∀e∈o.after,Region.binds .any e=true→listed.getD e.on false=true)→
   (∀j oj,ops[j]? =some oj→j≠i→listed.getD j true=false→i∈ancL ops j (preds ops j)∨(oi.apart ops oj=true∧Stays P oj))→
   i∈Region.ready .any ops listed→Doz P ops oi v w0 a w→
   wpAny P .any ops Q fuel (listed.setIfInBounds i true) (a.put oi.dst v) w→wpAny P .any ops Q (fuel+1) listed a w:=by
 have hself:∀{listed:Array Bool} {K:Act→World→Prop} {a:Act} {w:World},Doz P ops oi v w0 a w→K (a.put oi.dst v) w→wpOp P ops Q i K a w:=fun{listed K a w} hy h=>by
  unfold wpOp
  simp only[hi,hy.1,if_true,Oper.wp,hy.2.2 w hy.2.1,Oper.upon]
  exact .inl h
 intro fuel
 induction fuel with
 |zero=>
  intro listed a w _ _ hr hy H
  refine⟨fun h=>(by rw[h]at hr;cases hr),fun j hj=> ?_⟩
  by_cases hji:j=i
  ·subst hji;exact hself (listed:=listed) hy H
  ·have:=ready_mono hj hji
   rw[H.1]at this
   cases this
 |succ fuel ih=>
  intro listed a w hcl hfree hr hy H
  refine⟨fun h=>(by rw[h]at hr;cases hr),fun j hj=> ?_⟩
  by_cases hji:j=i
  ·subst hji;exact hself (listed:=listed) hy H
  ·have h1:=H.2 j (ready_mono hj hji)
   obtain⟨hjun,oj,hoj,hall⟩:=mem_ready.1 hj
   have hiun:listed.getD i false=false:=by
    have h0:=(mem_ready.1 hr).1
    rcases Nat.lt_or_ge i listed.size with h'|h'
    ·rwa[Bxz h']at h0
    ·simp[Array.getElem?_eq_none h']at h0
   have hnot:¬i∈ancL ops j (preds ops j):=fun hm=>by
    have:=Esz (ops:=ops) hcl j (preds ops j) (fun k hk=>by
     unfold preds at hk
     rw[hoj]at hk
     obtain⟨e,he,rfl⟩:=List.mem_map.1 hk
     have he:=List.mem_filter.1 he
     exact hall e (by simpa using he.1) he.2) i hm
    rw[hiun]at this
    cases this
   obtain⟨hap,hst⟩:=(hfree j oj hoj hji hjun).resolve_left hnot
   have h2:=RMz hoj hap hst (fun cs b=>hsel i oi cs b hi) (fun cs b=>hsel j oj cs b hoj) hQ hy h1
   have hcl':∀(k:Nat) (o:Oper),(listed.setIfInBounds j true).getD k false=true→ops[k]? =some o→∀e∈o.after,Region.binds .any e=true→(listed.setIfInBounds j true).getD e.on false=true:=fun k o hk ho e he hb=>by
    rcases Gfz hk with hk|hk
    ·subst hk
     rw[hoj]at ho;injection ho with ho;subst ho
     exact getD_set_true (hall e he hb)
    ·exact getD_set_true (hcl k o hk ho e he hb)
   have hfree':∀k ok,ops[k]? =some ok→k≠i→(listed.setIfInBounds j true).getD k true=false→i∈ancL ops k (preds ops k)∨(oi.apart ops ok=true∧Stays P ok):=fun k ok hk hki hun=>by
    refine hfree k ok hk hki ?_
    by_cases hjk:j=k
    ·subst hjk;exact hjun
    ·rw[getD_set_ne true hjk]at hun;exact hun
   refine wpOp_mono (fun a' w' h3=>ih (listed.setIfInBounds j true) a' w' hcl' hfree' (ready_mono hr (Ne.symm hji)) h3.1 ?_) h2
   rw[Array.setIfInBounds_comm _ _ hji]
   exact h3.2
theorem Xlz {P:Program} (hTO:TOk P E.T) (hcall:Bvz P call) (hT:Trace E call N ops 0 K τ) (hA:Apart ops K) {σe:St} (hend:AYz E call N ops (List.range' K (ops.size - K)) (τ K)=some σe) {gv:List Value} {Q:Exit→Act→World→Prop} (hQp:∀c a w,¬Q (.panic c) a w):∀(fuel:Nat) {listed:Array Bool} {U:List Nat} {X:Ctx} {a:Act} {σ:St},Mid ops K τ listed σ→U.Nodup→(∀i,i<ops.size→(listed.getD i false=false↔i∈U))→(∀i∈U,i<ops.size)→U.length≤fuel→
  Good X (All a gv) σ NoE→N=a.tmps.size→(∀a' X',Goes X X'→Good X' (All a' gv) σe NoE→a'.tmps.size=N→a'.defers=a.defers→Q .normal a' X'.w)→wpAny P .any ops Q fuel listed a X.w:=by
 intro fuel
 induction fuel with
 |zero=>
  intro listed U X a σ M hnd hU hUs hlen hg hN hQ
  have hall:∀i,i<ops.size→listed.getD i false=true:=fun i hi=>by
   cases h:listed.getD i false with
   |true=>rfl
   |false=>
    have:=(hU i hi).1 h
    have h0:U=[]:=List.length_eq_zero_iff.1 (by omega)
    rw[h0]at this;simp at this
  have hKs:K=ops.size:=by
   have h1:=hA.le
   by_cases h2:K=ops.size
   ·exact h2
   ·have:=M.low _ (hall K (by omega));omega
  have e:=Piz hT M fun i hi=>hall i (by omega)
  subst e
  exact PXz hTO hcall hA 0 0 (i:=ops.size) (by omega) (Nat.le_refl _) (Nat.le_refl _) (by omega) M.size (fun j=>⟨fun h=>hKs▸M.low j h,fun h=>hall j h⟩) hg hN (by rw[hKs]at hend ⊢;exact hend) hQ
 |succ fuel ih=>
  intro listed U X a σ M hnd hU hUs hlen hg hN hQ
  by_cases hall:∀i,i<K→listed.getD i false=true
  ·have e:=Piz hT M hall
   subst e
   refine PXz hTO hcall hA (ops.size - K) (fuel+1) (i:=K) rfl ?_ hA.le (Nat.le_refl _) M.size (fun j=>⟨M.low j,hall j⟩) hg hN hend hQ
   have:(List.range' K (ops.size - K)).length≤U.length:=HTz (List.nodup_range') fun j hj=>by
    obtain⟨h1,h2⟩:=List.mem_range'_1.1 hj
    refine(hU j (by omega)).1 ?_
    cases hc:listed.getD j false with
    |false=>rfl
    |true=>have:=M.low j hc;omega
   rw[List.length_range']at this
   omega
  have hstep:∀(i:Nat) (x:Oper),i<K→ops[i]? =some x→listed.getD i false=false→(∀e∈x.after,Region.binds .any e=true→listed.getD e.on false=true)→∀(G:Prop),
    (∀(w:Bool) (d:Nat) (v:SV),x.dst=some d→Bare X σ d→d<σ.length→d<N→Asz N ops x σ=some w→(w=true→∃v0,Aoz E call N x σ=some v0∧v=drawn E.T ops.toList d v0)→(w=false→v=skipSV)→
     (∀u X',Eff X X' (All a gv) σ d u v→wpAny P .any ops Q fuel (listed.setIfInBounds i true) (a.put x.dst u) X'.w)→G)→G:=by
   intro i x hi hx h1 hed G hG
   have hio:=(Array.getElem?_eq_some_iff.1 hx).1
   obtain⟨o,w,v,d,ho,hw,hd,hdN,hp,hv1,hv2,hnb,e⟩:=hT.step i (Nat.zero_le _) hi
   have hxo:x=o:=by rw[hx]at ho;injection ho
   subst hxo
   have hlook:∀t,(t∈x.looksAt ops∨x.dst=some t∨∀j,j<K→CCz ops j≠some t)→(τ i)[t]? =σ[t]? :=fun t hl=>T9z hT hA M hi hx h1 hed hl
   have hwσ:Asz N ops x σ=some w:=by
    rw[←hw]
    exact(LEz fun t ht=>G9z (hlook t (.inl (List.mem_append_right _ ht)))).symm
   have hpσ:plain (σ.getD d .undef)=true:=by rw[←G9z (hlook d (.inr (.inl hd)))];exact hp
   have hb:=QWz hg hpσ
   have hdl:d<σ.length:=Nat.lt_of_lt_of_le hdN (by
    rw[←hg.frame.1];unfold All;rw[List.length_append,Array.length_toList];omega)
   have hval:=RVz hT hA hi (Dlz hx hd) e (by rw[←M.len];exact hdl)
   have hsz:i<listed.size:=by rw[M.size];exact hio
   have hM':Mid ops K τ (listed.setIfInBounds i true) (σ.set d v):=by
    refine⟨by simp[M.size],by simp[M.len],fun k hk=> ?_,fun k o' hk ho' ed hed' hbd=> ?_,fun t j hj hdt=> ?_,fun t hn=> ?_⟩
    ·rcases Gfz hk with hk|hk
     ·subst hk;exact hi
     ·exact M.low k hk
    ·rcases Gfz hk with hk|hk
     ·subst hk
      rw[hx]at ho';injection ho' with ho';subst ho'
      exact getD_set_true (hed ed hed' hbd)
     ·exact getD_set_true (M.closed k o' hk ho' ed hed' hbd)
    ·rcases Gfz hj with hj2|hj2
     ·subst hj2
      have:t=d:=by have:=hdt.symm.trans (Dlz hx hd);injection this
      subst this
      rw[List.getElem?_set_self hdl,hval]
     ·have hne:d≠t:=fun e1=>by
       subst e1
       have:=EYz hA (M.low _ hj2) hi hdt (Dlz hx hd)
       rw[this,h1]at hj2;simp at hj2
      rw[List.getElem?_set_ne hne]
      exact M.done t j hj2 hdt
    ·have hne:d≠t:=fun e1=>by
      subst e1
      refine hn i ?_ (Dlz hx hd)
      simp[hsz]
     rw[List.getElem?_set_ne hne]
     exact M.rest t fun j hj=>hn j (getD_set_true hj)
   have hU':∀k,k<ops.size→((listed.setIfInBounds i true).getD k false=false↔k∈U.erase i):=fun k hk=>by
    by_cases hki:k=i
    ·subst hki
     have hne:¬k∈U.erase k:=fun hh=>by
      have:=(List.Nodup.mem_erase_iff hnd).1 hh
      exact this.1 rfl
     simp[hsz,hne]
    ·rw[getD_set_ne false (Ne.symm hki),List.mem_erase_of_ne hki]
     exact hU k hk
   have hlen':(U.erase i).length≤fuel:=by
    rw[List.length_erase_of_mem ((hU i hio).1 h1)];omega
   have hK:∀u X',Eff X X' (All a gv) σ d u v→wpAny P .any ops Q fuel (listed.setIfInBounds i true) (a.put x.dst u) X'.w:=fun u X' hE=>by
    refine ih hM' (hnd.erase i) hU' (fun k hk=>hUs k (List.mem_of_mem_erase hk)) hlen' ?_ (by rw[Eyz];exact hN) fun a' X'' G hg' hs hdf=>hQ a' X'' (hE.goes.trans G) hg' hs (hdf.trans (Dtz a x.dst u))
    rw[hd,I7z (hN▸hdN)]
    exact hE.good
   have hopd:w=true→∃v0,Aoz E call N x σ=some v0∧v=drawn E.T ops.toList d v0:=fun hw1=>by
    obtain⟨v0,hv0,hvd⟩:=hv1 hw1
    refine⟨v0,?_,hvd⟩
    have hopd:∀y∈x.op.operands,opd E.T N x.type (τ i) y=opd E.T N x.type σ y:=fun y hy=>R1z fun t ht=>by
     refine G9z (hlook t (.inl (List.mem_append_left _ ?_)))
     subst ht
     exact List.mem_filterMap.2 ⟨.tmp t,by simpa using hy,rfl⟩
    refine N9z hopd (fun y hy s o' l hbp hs=> ?_) hv0
    refine Vfz hT hA M hi hs ?_
    have hsv:=Bcz (T:=E.T) (ty:=x.type) hg hN y 0
    rw[←hopd y hy,hbp]at hsv
    generalize a.eval y=u0 at hsv
    cases hsv with
    |bp _ _ blk base tip ho=>exact hg.tags.box _ _ _ _ _ ho
   exact hG w d v hd hb hdl hdN hwσ hopd hv2 hK
  by_cases hlate:∃i,FPz ops K i=true∧i∈Region.ready .any ops listed
  ·obtain⟨i,hlt,hm⟩:=hlate
   obtain⟨hi,hKs,x',u',c',hx',hop',hg'⟩:=G5z hlt
   obtain⟨hns,_,hap⟩:=hA.late i hlt
   obtain⟨h1,x,hx,hed⟩:=mem_ready.1 hm
   have:x=x':=by rw[hx]at hx';injection hx'
   subst this
   have hio:=(Array.getElem?_eq_some_iff.1 hx).1
   rw[Bxz (by rw[M.size];exact hio)]at h1
   refine hstep i x hi hx h1 hed _ fun w d v hd hb hdl hdN hwσ hpσ2 hv2 hK=> ?_
   have hw0:Asz N ops x σ=some true:=by unfold Asz;rw[hg']
   rw[hw0]at hwσ
   injection hwσ with hwσ
   subst hwσ
   obtain⟨v0,hpσ3,hvd⟩:=hpσ2 rfl
   have hal:Aez x.op=false:=by rcases hop' with h|h<;>rw[h]<;>rfl
   rw[Gvz hal]at hpσ3
   have hrun:∃u,(∀w,(execOp a.eval x).run P w= .ok (.value u) w)∧OSV X u v0:=by
    rcases hop' with hop'|hop'
    ·unfold ALz at hpσ3
     simp only[hop']at hpσ3
     split at hpσ3
     case h_2=>simp at hpσ3
     rename_i s l hsv
     have hxv:=Bcz (T:=E.T) (ty:=x.type) hg hN u'
     rw[hsv]at hxv
     obtain⟨u,r,q⟩:=Krz (P:=P) hxv hpσ3
     refine⟨u,fun w=> ?_,q⟩
     have h9:execOp a.eval x=(do pure (Next.value (←Instr.extract (a.eval u') c')):Sem Next):=by unfold execOp;simp only[hop']
     rw[h9]
     exact Bhz (r w)
    ·unfold ALz at hpσ3
     simp only[hop']at hpσ3
     injection hpσ3 with hpσ3
     subst hpσ3
     exact⟨a.eval u',fun w=>by unfold execOp;simp only[hop'];rfl,Bcz (T:=E.T) (ty:=x.type) hg hN u'⟩
   obtain⟨u,hrun,q⟩:=hrun
   have hyl:Yields P ops x u a:= .inl ⟨by rw[DZz hg hN hw0],hrun⟩
   refine wpAny_first hx (Region.noSelect_spec hns) (fun c a w h=>absurd h (hQp c _ w)) fuel listed a X.w (fun j oj hoj hji hun hnw=> ?_) hm hyl (by
    obtain⟨X2,hw2,q2⟩:=Ffz E.T ops.toList (PureRes.same (d:=d) hg.inv q) hb.1
    have:=hK u X2 (Cvz hg hb hdl (hvd▸q2))
    rwa[hw2]at this)
   rcases hap j x oj hx hoj (Ne.symm hji)with h2|h2|h2
   ·unfold waits at h2
    obtain⟨e,he,hb2⟩:=Array.any_eq_true'.1 h2
    simp only[Bool.and_eq_true,beq_iff_eq]at hb2
    exact absurd hb2.2 (hnw e he hb2.1)
   ·unfold waits at h2
    obtain⟨e,he,hb2⟩:=Array.any_eq_true'.1 h2
    simp only[Bool.and_eq_true,beq_iff_eq]at hb2
    have h5:=hed e he hb2.1
    rw[hb2.2]at h5
    have hjs:=(Array.getElem?_eq_some_iff.1 hoj).1
    rw[Bxz (by rw[M.size];exact hjs),h5]at hun
    simp at hun
   ·exact h2
  by_cases hB:∀j,j<K→listed.getD j false=true∨Coz ops K j=true
  ·obtain⟨i,hi,hun,hmin⟩:∃i,i<K∧listed.getD i false=false∧∀j,j<i→listed.getD j false=true:=by
    refine Classical.byContradiction fun hh=>hall ?_
    intro i
    induction i using Nat.strongRecOn with
    |_ i ih'=>
     intro hi
     cases hc:listed.getD i false with
     |true=>rfl
     |false=>exact absurd ⟨i,hi,hc,fun j hj=>ih' j hj (Nat.lt_trans hj hi)⟩ hh
   have hld:=(hB i hi).resolve_left (by rw[hun];simp)
   obtain⟨_,hnK,⟨oK,tK,nK,psK,hoK,hopK,hgK⟩,x,tx,ux,cx,hx,hopx,hgx⟩:=Kcz hld
   obtain⟨hns,_,hap⟩:=hA.ld i hld
   have hio:=(Array.getElem?_eq_some_iff.1 hx).1
   have hed:∀e∈x.after,Region.binds .any e=true→listed.getD e.on false=true:=fun e he hb=>hmin _ (hA.edge i x hx e he hb)
   have hm:i∈Region.ready .any ops listed:=mem_ready.2 ⟨by rw[Bxz (by rw[M.size];exact hio)];exact hun,x,hx,hed⟩
   refine hstep i x hi hx hun hed _ fun w d v hd hb hdl hdN hwσ hpσ2 hv2 hK=> ?_
   have hw0:Asz N ops x σ=some true:=by unfold Asz;rw[hgx]
   rw[hw0]at hwσ
   injection hwσ with hwσ
   subst hwσ
   obtain⟨v0,hpσ3,hvd⟩:=hpσ2 rfl
   have hal:Aez x.op=false:=by rcases hopx with h|h<;>rw[h]<;>rfl
   rw[Gvz hal]at hpσ3
   have hrun:∃u,(∀w,Ext X.w w→(execOp a.eval x).run P w= .ok (.value u) w)∧OSV X u v0:=by
    rcases hopx with hop'|hop'
    ·unfold ALz at hpσ3
     simp only[hop']at hpσ3
     obtain⟨u,r,q⟩:=MQz (P:=P) hTO (Bcz (T:=E.T) (ty:=x.type) hg hN ux) hpσ3
     refine⟨u,fun w hw=> ?_,q⟩
     have h9:execOp a.eval x=(do pure (Next.value (←Instr.fieldAt tx (a.eval ux) cx)):Sem Next):=by unfold execOp;simp only[hop']
     rw[h9]
     exact Bhz (r w)
    ·unfold ALz at hpσ3
     simp only[hop']at hpσ3
     obtain⟨u,r,q⟩:=NYz (P:=P) hTO hg (Bcz (T:=E.T) (ty:=x.type) hg hN ux) hpσ3
     refine⟨u,fun w hw=> ?_,q⟩
     have h9:execOp a.eval x=(do pure (Next.value (←Instr.loadAt tx (a.eval ux))):Sem Next):=by unfold execOp;simp only[hop']
     rw[h9]
     exact Bhz (r w hw)
   obtain⟨u,hrun,q⟩:=hrun
   have hyl:Doz P ops x u X.w a X.w:=⟨by rw[DZz hg hN hw0],.refl _,fun w hw=>hrun w hw⟩
   refine Mnz hx (Region.noSelect_spec hns) (fun c a w h=>absurd h (hQp c _ w)) fuel listed a X.w M.closed (fun j oj hoj hji hun'=> ?_) hm hyl (by
    obtain⟨X2,hw2,q2⟩:=Ffz E.T ops.toList (PureRes.same (d:=d) hg.inv q) hb.1
    have:=hK u X2 (Cvz hg hb hdl (hvd▸q2))
    rwa[hw2]at this)
   obtain⟨g1,g2,g3⟩:=hap j x oj hx hoj (Ne.symm hji)
   have hjs:=(Array.getElem?_eq_some_iff.1 hoj).1
   rw[Bxz (by rw[M.size];exact hjs)]at hun'
   by_cases hjK:j<K
   ·have hlj:=(hB j hjK).resolve_left (by rw[hun'];simp)
    rcases g1 hjK hlj with h2|h2|h2
    ·left
     refine TBz ?_
     unfold waits at h2
     obtain⟨e,he,hb2⟩:=Array.any_eq_true'.1 h2
     simp only[Bool.and_eq_true,beq_iff_eq]at hb2
     unfold preds
     rw[hoj]
     exact List.mem_map.2 ⟨e,List.mem_filter.2 ⟨by simpa using he,hb2.1⟩,hb2.2⟩
    ·exfalso
     unfold waits at h2
     obtain⟨e,he,hb2⟩:=Array.any_eq_true'.1 h2
     simp only[Bool.and_eq_true,beq_iff_eq]at hb2
     have h5:=hed e he hb2.1
     rw[hb2.2,hun']at h5
     simp at h5
    ·right
     refine⟨h2,?_⟩
     obtain⟨_,_,_,y,ty,uy,cy,hy,hopy,hgy⟩:=Kcz hlj
     have:oj=y:=by rw[hoj]at hy;injection hy
     subst this
     exact Tdz hopy
   ·by_cases hjK2:j=K
    ·right
     refine⟨g2 hjK2,?_⟩
     have:oj=oK:=by rw[hjK2,hoK]at hoj;injection hoj with hoj;exact hoj.symm
     subst this
     exact Rmz hopK
    ·left
     exact g3 (by omega)
  obtain⟨j0,hj0,hj0u,hnl0⟩:∃j,j<K∧listed.getD j false=false∧¬Coz ops K j=true:=by
   refine Classical.byContradiction fun hh=>hB fun j hj=> ?_
   cases hc:listed.getD j false with
   |true=>exact .inl rfl
   |false=>exact .inr (Classical.byContradiction fun h=>hh ⟨j,hj,hc,h⟩)
  have hleft:∃i,i<K∧listed.getD i false=false∧¬Coz ops K i=true:=⟨j0,hj0,hj0u,hnl0⟩
  refine⟨fun hr=> ?_,fun i hm=> ?_⟩
  ·exfalso
   have:∀i,i<K→listed.getD i false=true:=by
    intro i
    induction i using Nat.strongRecOn with
    |_ i ih'=>
     intro hi
     have hio:i<ops.size:=Nat.lt_of_lt_of_le hi hA.le
     cases h:listed.getD i false with
     |true=>rfl
     |false=>
      have:i∈Region.ready .any ops listed:=mem_ready.2 ⟨by rw[Bxz (by rw[M.size];exact hio)];exact h,_,Array.getElem?_eq_getElem hio,fun e he hb=>by
       have hlt:=hA.edge i _ (Array.getElem?_eq_getElem hio) e he hb
       exact ih' e.on hlt (by omega)⟩
      rw[hr]at this;simp at this
   exact hall this
  ·obtain⟨h1,x,hx,hed⟩:=mem_ready.1 hm
   have hio:=(Array.getElem?_eq_some_iff.1 hx).1
   rw[Bxz (by rw[M.size];exact hio)]at h1
   have hi:i<K:=by
    refine Nat.lt_of_not_le fun hge=> ?_
    obtain⟨j,hj,hun,hnl⟩:=hleft
    have hpr:∀k∈preds ops i,listed.getD k false=true:=fun k hk=>by
     unfold preds at hk
     rw[hx]at hk
     obtain⟨e,he,rfl⟩:=List.mem_map.1 hk
     have he:=List.mem_filter.1 he
     exact hed e (by simpa using he.1) he.2
    have hanc:=Esz (ops:=ops) M.closed i (preds ops i) hpr
    have hKanc:∀k∈ancL ops K (preds ops K),listed.getD k false=true:=by
     by_cases hiK:i=K
     ·rw[←hiK];exact hanc
     ·exfalso
      have:=hanc K (((hA.tail i hge hio K (by omega)).resolve_left fun hh=>by have:=(G5z hh).1;omega).resolve_left fun hh=>by have:=(Kcz hh).1;omega)
      have:=M.low K this
      omega
    rcases hA.tail i hge hio j (by omega)with h2|h2|h2
    ·obtain⟨hjK,hKs,xj,uj,cj,hxj,_,_⟩:=G5z h2
     refine hlate ⟨j,h2,mem_ready.2 ⟨?_,xj,hxj,fun e he hb=> ?_⟩⟩
     ·rw[Bxz (by rw[M.size];omega)];exact hun
     ·refine hKanc _ ((hA.late j h2).2.1 _ ?_)
      unfold preds
      rw[hxj]
      exact List.mem_map.2 ⟨e,List.mem_filter.2 ⟨by simpa using he,hb⟩,rfl⟩
    ·exact absurd h2 hnl
    ·have:=hanc j h2
     rw[hun]at this;simp at this
   refine hstep i x hi hx h1 hed _ fun w d v hd hb hdl hdN hwσ hpσ2 hv2 hK=> ?_
   unfold wpOp
   simp only[hx]
   rw[DZz hg hN hwσ]
   cases w with
   |false=>
    simp only[Bool.false_eq_true,if_false]
    have hv:=hv2 rfl
    subst hv
    exact hK undef X (Cvz hg hb hdl (PureRes.same hg.inv (v:=undef) (sv:=skipSV) fun k=>Myz))
   |true=>
    simp only[if_true]
    obtain⟨v0,hpσ2,hvd⟩:=hpσ2 rfl
    left
    unfold Oper.wp
    cases hal:Aez x.op with
    |true=>
     obtain⟨t,ht⟩:=Qoz hal
     unfold Aoz at hpσ2
     simp only[ht]at hpσ2
     obtain⟨z,hz,hv⟩:=AHz hpσ2
     obtain⟨u,X',hr,hE⟩:=MRz (P:=P) hTO hg hb hdl hz
     have he:(execOp a.eval x).run P X.w= .ok (.value u) X'.w:=by
      have h9:(execOp a.eval x)=(do pure (Next.value (←Instr.alloc t true (.tuple #[]))):Sem Next):=by unfold execOp;simp only[ht]
      rw[h9]
      exact Bhz hr
     rw[he,Oper.upon_value]
     have hvv:v= .c .box (z.map (PV.cv false)):=by rw[hvd,←hv];unfold drawn;split<;>rfl
     rw[←hvv]at hE
     exact hK u X' hE
    |false=>
    rw[Gvz hal]at hpσ2
    cases hc:G7z x with
    |false=>
     obtain⟨u,X',hr,q⟩:=NBz (P:=P) hTO hg hN (hb.1 0) hpσ2 hc
     rw[hr,Oper.upon_value]
     obtain⟨X2,hw2,q2⟩:=Ffz E.T ops.toList q hb.1
     have:=hK u X2 (Cvz hg hb hdl (hvd▸q2))
     rwa[hw2]at this
    |true=>
     obtain⟨c,f,ho',hcal⟩:=MFz hc
     obtain⟨g,args,e1,hL⟩:=L1z hcall hg hN hb.no hpσ2 ho' hcal
     rw[e1]
     refine Haz (Dxz hL ?_)
     rintro u w' ⟨X',rfl,q⟩
     obtain⟨X2,hw2,q2⟩:=Ffz E.T ops.toList q hb.1
     have:=hK u X2 (Cvz hg hb hdl (hvd▸q2))
     rwa[hw2]at this
end
section
variable {E:Env} {call:CallF} {N:Nat} {ops:Array Oper}
theorem ITz:∀(k:Nat) (l:List Nat),∃o,o∈orders ops k l
 |0,l=>⟨[],by simp[orders]⟩
 |k+1,l=>by
  simp only[orders]
  cases h:DPz ops l with
  |nil=>exact⟨[],by simp⟩
  |cons i r=>
   obtain⟨o,ho⟩:=ITz k (i::l)
   exact⟨i::o,List.mem_flatMap.2 ⟨i,List.mem_cons_self,List.mem_map.2 ⟨o,ho,rfl⟩⟩⟩
theorem GSz {listed:Array Bool} {l:List Nat} (hsz:listed.size=ops.size) (hl:∀j,listed.getD j false=true↔j∈l) {i:Nat}:i∈Region.ready .any ops listed↔i∈DPz ops l:=by
 have hf:∀{i},i<ops.size→(listed.getD i true=false↔¬i∈l):=fun{i} hi=>by
  rw[Bxz (by rw[hsz];exact hi),←hl i]
  cases listed.getD i false<;>simp
 constructor
 ·intro h
  obtain⟨h1,o,ho,h2⟩:=mem_ready.1 h
  have hi:=(Array.getElem?_eq_some_iff.1 ho).1
  refine List.mem_filter.2 ⟨by simpa using hi,?_⟩
  simp only[Bool.and_eq_true,Bool.not_eq_true',List.all_eq_true]
  refine⟨by simpa using(hf hi).1 h1,fun j hj=> ?_⟩
  unfold preds at hj
  rw[ho]at hj
  obtain⟨e,he,rfl⟩:=List.mem_map.1 hj
  have he:=List.mem_filter.1 he
  simpa using(hl _).1 (h2 e (by simpa using he.1) he.2)
 ·intro h
  obtain⟨h1,h2⟩:=List.mem_filter.1 h
  have hi:i<ops.size:=by simpa using h1
  simp only[Bool.and_eq_true,Bool.not_eq_true',List.all_eq_true]at h2
  refine mem_ready.2 ⟨(hf hi).2 (by simpa using h2.1),_,Array.getElem?_eq_getElem hi,fun e he hb=>(hl _).2 ?_⟩
  have:=h2.2 e.on (by
   unfold preds
   rw[Array.getElem?_eq_getElem hi]
   exact List.mem_map.2 ⟨e,List.mem_filter.2 ⟨by simpa using he,hb⟩,rfl⟩)
  simpa using this
theorem R0z {P:Program} (hTO:TOk P E.T) (hcall:Bvz P call) {gv:List Value} {Q:Exit→Act→World→Prop}:∀(k fuel:Nat) {listed:Array Bool} {l:List Nat} {X:Ctx} {a:Act} {σ σe:St},ops.size≤l.length+k→k≤fuel→listed.size=ops.size→
  (∀j,listed.getD j false=true↔j∈l)→l.Nodup→(∀j∈l,j<ops.size)→Good X (All a gv) σ NoE→N=a.tmps.size→(∀o∈orders ops k l,AYz E call N ops o σ=some σe)→
  (∀a' X',Goes X X'→Good X' (All a' gv) σe NoE→a'.tmps.size=N→a'.defers=a.defers→Q .normal a' X'.w)→wpAny P .any ops Q fuel listed a X.w:=by
 intro k
 induction k with
 |zero=>
  intro fuel listed l X a σ σe hk hf hsz hl hnd hlt hg hN ho hQ
  have h:=ho [] (by simp[orders])
  simp only[AYz]at h
  injection h with h;subst h
  refine wpAny_done ?_ (hQ a X (.refl X) hg hN.symm rfl) fuel
  cases hr:Region.ready .any ops listed with
  |nil=>rfl
  |cons i r=>
   have hm:i∈Region.ready .any ops listed:=by rw[hr];simp
   have hi:=(GSz hsz hl).1 hm
   obtain⟨h1,h2⟩:=List.mem_filter.1 hi
   simp only[Bool.and_eq_true,Bool.not_eq_true']at h2
   have hni:¬i∈l:=by simpa using h2.1
   have hlen:=HTz (L:=i::l) (M:=List.range ops.size) (List.nodup_cons.2 ⟨hni,hnd⟩) fun j hj=>by
    rcases List.mem_cons.1 hj with rfl|hj
    ·exact h1
    ·simpa using hlt j hj
   rw[List.length_cons,List.length_range]at hlen
   omega
 |succ k ih=>
  intro fuel listed l X a σ σe hk hf hsz hl hnd hlt hg hN ho hQ
  obtain⟨fuel,rfl⟩:∃n,fuel=n+1:=⟨fuel - 1,by omega⟩
  simp only[orders]at ho
  cases hr:DPz ops l with
  |nil=>
   rw[hr]at ho
   have h:=ho [] (by simp)
   simp only[AYz]at h
   injection h with h;subst h
   refine wpAny_done ?_ (hQ a X (.refl X) hg hN.symm rfl) (fuel+1)
   cases hr2:Region.ready .any ops listed with
   |nil=>rfl
   |cons i r=>
    have hm:i∈Region.ready .any ops listed:=by rw[hr2];simp
    have:=(GSz hsz hl).1 hm
    rw[hr]at this
    simp at this
  |cons i0 r0=>
   rw[hr]at ho
   refine⟨fun h=> ?_,fun i hi=> ?_⟩
   ·have:i0∈Region.ready .any ops listed:=(GSz hsz hl).2 (by rw[hr];simp)
    rw[h]at this;simp at this
   ·have him:=(GSz hsz hl).1 hi
    obtain⟨h1,x,hx,hed⟩:=mem_ready.1 hi
    have his:=(Array.getElem?_eq_some_iff.1 hx).1
    have ho':∀o∈orders ops k (i::l),AYz E call N ops (i::o) σ=some σe:=fun o hoo=>ho _ (List.mem_flatMap.2 ⟨i,by rw[←hr];exact him,List.mem_map.2 ⟨o,hoo,rfl⟩⟩)
    obtain⟨o1,hm1⟩:=ITz (ops:=ops) k (i::l)
    have h:=ho' o1 hm1
    simp only[AYz,hx]at h ho'
    obtain⟨w,hw,h⟩:=AAz h
    obtain⟨σ1,h2,h3⟩:=AAz h
    have ho2:∀o∈orders ops k (i::l),AYz E call N ops o σ1=some σe:=fun o hoo=>by
     have:=ho' o hoo
     rw[hw,Option.bind_some,h2,Option.bind_some]at this
     exact this
    have hsz':i<listed.size:=by rw[hsz];exact his
    have hl':∀j,(listed.setIfInBounds i true).getD j false=true↔j∈i::l:=fun j=>by
     by_cases hjk:i=j
     ·subst hjk;simp[hsz']
     ·rw[getD_set_ne false hjk,hl j]
      simp[Ne.symm hjk]
    have hni:¬i∈l:=by
     obtain⟨_,h2⟩:=List.mem_filter.1 him
     simp only[Bool.and_eq_true,Bool.not_eq_true']at h2
     simpa using h2.1
    have hK':∀a' X',Goes X X'→Good X' (All a' gv) σ1 NoE→a'.tmps.size=N→a'.defers=a.defers→wpAny P .any ops Q fuel (listed.setIfInBounds i true) a' X'.w:=fun a' X' G hg' hs hd=>
     ih fuel (by rw[List.length_cons];omega) (by omega) (by simp[hsz]) hl' (List.nodup_cons.2 ⟨hni,hnd⟩) (fun j hj=>by
      rcases List.mem_cons.1 hj with rfl|hj
      ·exact his
      ·exact hlt j hj) hg' hs.symm ho2 fun a'' X'' G' hg'' hs' hd'=>hQ a'' X'' (G.trans G') hg'' hs' (hd'.trans hd)
    unfold wpOp
    simp only[hx]
    rw[DZz hg hN hw]
    cases w with
    |true=>
     simp only[if_true]at h2 ⊢
     exact .inl (Ixz hTO hcall hg hN h2 hK')
    |false=>
     simp only[Bool.false_eq_true,if_false]at h2 ⊢
     split at h2
     case isFalse=>simp at h2
     rename_i hdok
     injection h2 with h2;subst h2
     obtain⟨X',hw',G,hg'⟩:=LKz hg hN hdok
     rw[←hw']
     exact hK' _ X' G hg' (by rw[Eyz];exact hN.symm) (Dtz a x.dst undef)
end
section
variable {E:Env} {call:CallF} {N:Nat} {ops:Array Oper}
theorem Pcz {σ s s1:St}:∀{os:List (List Nat)},ESz E call N ops os s σ=some s1→s1=s∧∀o∈os,AYz E call N ops o σ=some s
 |[],h=>by simp only[ESz]at h;injection h with h;exact⟨h.symm,fun o ho=>by simp at ho⟩
 |o::os,h=>by
  simp only[ESz]at h
  obtain⟨s',h1,h2⟩:=AAz h
  split at h2
  case isFalse=>simp at h2
  rename_i e
  subst e
  obtain⟨h3,h4⟩:=Pcz h2
  refine⟨h3,fun q hq=> ?_⟩
  rcases List.mem_cons.1 hq with rfl|hq
  ·exact h1
  ·exact h4 q hq
theorem Xnz {σ s:St} (h:Egz E call N ops σ=some s):∀o∈orders ops ops.size [],AYz E call N ops o σ=some s:=by
 unfold Egz at h
 split at h
 ·simp at h
 rename_i o os e
 obtain⟨s',h1,h2⟩:=AAz h
 obtain⟨h3,h4⟩:=Pcz h2
 subst h3
 rw[e]
 intro q hq
 rcases List.mem_cons.1 hq with rfl|hq
 ·exact h1
 ·exact h4 q hq
end
end Go.Proofs.YtblelojdboefjaaGreatDoor.R
namespace Go.Proofs.YtblelojdboefjaaGreatDoor.R
open Go
theorem Kjz {X:Ctx} {vs:List Value} {σ:St} {E:Nat→Nat→Prop} (h:Good X vs σ E) (n:Nat):Good (X.turned {X.w with drawn:=n}) vs σ E:=
 have hm:Mono X (X.turned {X.w with drawn:=n}):=⟨fun f b h=>⟨h,rfl⟩,fun b t h=>⟨h,rfl⟩⟩
 ⟨Fbz h.inv rfl,h.frame.mono hm,h.tags.cell,h.tags.box⟩
theorem Kkz (X:Ctx) (n:Nat):Goes X (X.turned {X.w with drawn:=n}):=
 ⟨rfl,rfl,rfl,Nat.le_refl _,fun _ _ _=>rfl,rfl,fun _ h=>h,fun _ h=> .inl h,fun _ h=> .inl h⟩
def exOf:Ex→Exit
 | .normal=> .normal
 | .exit i=> .exit i
 | .ret=> .ret
theorem Mwz {X:Ctx} {vs:List Value} {σ:St} (hg:Good X vs σ NoE) {d:Nat} (hd:d<σ.length):∃X',X'.w=X.w∧Goes X X'∧Good X' vs ((clear d σ).set d .undef) NoE:=by
 obtain⟨X1,C⟩:=Fnz hg d
 have hdl:d<(clear d σ).length:=by rw[C.size];exact hd
 have hdv:d<vs.length:=by rw[hg.frame.1];exact hd
 have hE:=Cvz C.good ⟨C.free,C.noBox,C.noOw,C.noBx⟩ hdl (PureRes.same C.good.inv (v:=vs[d]) (sv:= .undef) fun k=> .undef _)
 refine⟨X1,C.w,C.goes,?_⟩
 have:=hE.good
 rw[List.set_getElem_self]at this
 exact this
theorem Ivz {N:Nat}:∀(l:List Nat) {X:Ctx} {vs:List Value} {σ:St},Good X vs σ NoE→N≤σ.length→∃X',X'.w=X.w∧Goes X X'∧Good X' vs (tidy N l σ) NoE
 |[],X,vs,σ,hg,_=>⟨X,rfl,.refl X,hg⟩
 |d::l,X,vs,σ,hg,hN=>by
  simp only[tidy]
  split
  ·rename_i hd
   obtain⟨X1,hw,G,hg1⟩:=Mwz hg (Nat.lt_of_lt_of_le hd hN)
   obtain⟨X2,hw2,G2,hg2⟩:=Ivz l hg1 (by rw[←hg1.frame.1,hg.frame.1];exact hN)
   exact⟨X2,hw2.trans hw,G.trans G2,hg2⟩
  ·exact Ivz l hg hN
section
variable {P:Program} {E:Env} {call:CallF} {N:Nat} {gv:List Value}
theorem Rwz (hT:TOk P E.T) (hcall:Bvz P call) (hm:P.follows .mixedOrders=true) {id:Nat} {ops:Array Oper} {draw:Bool} {n:Nat} {X:Ctx} {a:Act} {σ:St} {r:Ex×St} {Q:Exit→Act→World→Prop} (hg:Good X (All a gv) σ NoE) (hN:N=a.tmps.size)
  (h:AGz E call N n (.region id ops draw) σ=some r) (hQ:∀a' X',Goes X X'→Good X' (All a' gv) r.2 NoE→a'.tmps.size=N→a'.defers=a.defers→Q (exOf r.1) a' X'.w):(Code.region id ops draw).wp P Q a X.w:=by
 simp only[AGz]at h
 cases draw with
 |false=>
  simp only[Bool.false_eq_true,if_false]at h
  obtain⟨σ',h1,rfl⟩:=AHz h
  exact wp_region (ILz hT hcall hg hN h1 hQ)
 |true=>
  simp only[if_true]at h
  by_cases hal:E.T.al=true
  ·rw[if_pos hal]at h
   obtain⟨σ',h1,rfl⟩:=AHz h
   refine wp_mono (Q:=fun e a w=>e= .normal∧Q .normal a w) ?_ (fun e a w h=>by rw[h.1];exact h.2)
   refine wp_region_any hm ?_
   exact R0z (gv:=gv) (Q:=fun e a w=>e= .normal∧Q .normal a w) hT hcall ops.size ops.size (l:=[]) (X:=X.turned {X.w with drawn:=X.w.drawn+1}) (by simp) (Nat.le_refl _) (by simp) (fun j=>⟨fun hi=>by
    by_cases hlt:j<ops.size
    ·simp[hlt]at hi
    ·simp[hlt]at hi,fun h=>by simp at h⟩) List.nodup_nil (fun j h=>by simp at h) (Kjz hg _) hN (Xnz h1) (fun a' X' G hg' hs hd=>⟨rfl,hQ a' X' ((Kkz X _).trans G) hg' hs hd⟩)
  rw[if_neg hal]at h
  split at h
  case isFalse=>simp at h
  rename_i hap
  obtain⟨σ',h1,rfl⟩:=AHz h
  obtain⟨σ1,h1,hend⟩:=AAz h1
  rw[List.range_eq_range']at h1
  obtain⟨τ,e1,e2,hTr⟩:=Mvz (Atz E.T ops.toList ops.toList) 0 h1
  rw[Nat.zero_add]at e2 hTr
  refine wp_mono (Q:=fun e a w=>e= .normal∧Q .normal a w) ?_ (fun e a w h=>by rw[h.1];exact h.2)
  refine wp_region_any hm ?_
  have hno:∀i,(Array.replicate ops.size false).getD i false=true→False:=fun i hi=>by
   by_cases hlt:i<ops.size
   ·simp[hlt]at hi
   ·simp[hlt]at hi
  have hM:Mid ops (Atz E.T ops.toList ops.toList) τ (Array.replicate ops.size false) σ:=
   ⟨by simp,by rw[e1],fun i hi=>(hno i hi).elim,fun i o hi=>(hno i hi).elim,fun t j hj=>(hno j hj).elim,fun t _=>by rw[e1]⟩
  exact Xlz (gv:=gv) (Q:=fun e a w=>e= .normal∧Q .normal a w) hT hcall hTr (Utz hap) (by rw[e2];exact hend) (fun c a w h=>by simp at h) ops.size (U:=List.range ops.size) (X:=X.turned {X.w with drawn:=X.w.drawn+1}) hM List.nodup_range (fun i hi=>by simp[hi]) (fun i hi=>List.mem_range.1 hi) (by simp) (Kjz hg _) hN
   (fun a' X' G hg' hs hd=>⟨rfl,hQ a' X' ((Kkz X _).trans G) hg' hs hd⟩)
theorem Pjz {c:Code} {f:St→Option (Ex×St)} (hc:∀{X:Ctx} {a:Act} {σ:St} {r:Ex×St} {Q:Exit→Act→World→Prop},Good X (All a gv) σ NoE→N=a.tmps.size→f σ=some r→
   (∀a' X',Goes X X'→Good X' (All a' gv) r.2 NoE→a'.tmps.size=N→a'.defers=a.defers→Q (exOf r.1) a' X'.w)→c.wp P Q a X.w):
  ∀(n:Nat) {X:Ctx} {a:Act} {σ:St} {r:Ex×St} {Q:Exit→Act→World→Prop},Good X (All a gv) σ NoE→N=a.tmps.size→iter f n σ=some r→
   (∀a' X',Goes X X'→Good X' (All a' gv) r.2 NoE→a'.tmps.size=N→a'.defers=a.defers→Q (exOf r.1) a' X'.w)→∀(b:Go.Frame) (k:List Item) (cs:List Go.Frame),
    ∃e a' w',Q e a' w'∧Arrives P (lone (b.at a (.code c:: .inLoop c::k)) cs X.w) b k cs e a' w'
 |0,X,a,σ,r,Q,hg,hN,h,hQ,b,k,cs=>by simp[iter]at h
 |n+1,X,a,σ,r,Q,hg,hN,h,hQ,b,k,cs=>by
  simp only[iter]at h
  obtain⟨⟨e,σ1⟩,h1,h2⟩:=AAz h
  let Q1:Exit→Act→World→Prop:=fun e' a' w'=>e'=exOf e∧∃X',X'.w=w'∧Goes X X'∧Good X' (All a' gv) σ1 NoE∧a'.tmps.size=N∧a'.defers=a.defers
  obtain⟨e',a₁,w₁,⟨he,X',hw,G,hg',hs,hd⟩,harr⟩:=hc (Q:=Q1) hg hN h1 (fun a' X' G hg' hs hd=>⟨rfl,X',rfl,G,hg',hs,hd⟩) b (.inLoop c::k) cs
  subst hw
  cases e with
  |normal=>
   simp only[exOf]at he
   subst he
   simp only at h2
   obtain⟨e₂,a₂,w₂,hq₂,harr₂⟩:=Pjz hc n hg' hs.symm h2 (fun a'' X'' G' hg'' hs' hd'=>hQ a'' X'' (G.trans G') hg'' hs' (hd'.trans hd)) b k cs
   exact⟨e₂,a₂,w₂,hq₂,.of_steps (Steps.trans harr (.one step_inLoop)) harr₂⟩
  |exit id=>
   simp only[exOf]at he
   subst he
   simp only at h2
   injection h2 with h2;subst h2
   exact⟨_,a₁,X'.w,hQ a₁ X' G hg' hs hd,.pass (x:= .inLoop c) rfl (fun _ _=> .inl (by simp[exOf])) harr⟩
  |ret=>
   simp only[exOf]at he
   subst he
   simp only at h2
   injection h2 with h2;subst h2
   exact⟨_,a₁,X'.w,hQ a₁ X' G hg' hs hd,.pass (x:= .inLoop c) rfl (fun _ _=> .inl (by simp[exOf])) harr⟩
theorem Cgz (hT:TOk P E.T) (hcall:Bvz P call) (hm:P.follows .mixedOrders=true) {n:Nat}:∀(c:Code) {X:Ctx} {a:Act} {σ:St} {r:Ex×St} {Q:Exit→Act→World→Prop},Good X (All a gv) σ NoE→N=a.tmps.size→AGz E call N n c σ=some r→
  (∀a' X',Goes X X'→Good X' (All a' gv) r.2 NoE→a'.tmps.size=N→a'.defers=a.defers→Q (exOf r.1) a' X'.w)→c.wp P Q a X.w
 | .skip,X,a,σ,r,Q,hg,hN,h,hQ=>by
  simp only[AGz]at h;injection h with h;subst h
  exact wp_skip (hQ a X (.refl X) hg hN.symm rfl)
 | .label l,X,a,σ,r,Q,hg,hN,h,hQ=>by
  simp only[AGz]at h;injection h with h;subst h
  exact wp_label (hQ a X (.refl X) hg hN.symm rfl)
 | .region id ops draw,X,a,σ,r,Q,hg,hN,h,hQ=>Rwz hT hcall hm hg hN h hQ
 | .seq x y,X,a,σ,r,Q,hg,hN,h,hQ=>by
  simp only[AGz]at h
  obtain⟨⟨e,σ1⟩,h1,h2⟩:=AAz h
  refine wp_seq (Cgz hT hcall hm x hg hN h1 fun a' X' G hg' hs hd=> ?_)
  cases e with
  |normal=>exact Cgz hT hcall hm y hg' hs.symm h2 fun a'' X'' G' hg'' hs' hd'=>hQ a'' X'' (G.trans G') hg'' hs' (hd'.trans hd)
  |exit id=>simp only at h2;injection h2 with h2;subst h2;exact hQ a' X' G hg' hs hd
  |ret=>simp only at h2;injection h2 with h2;subst h2;exact hQ a' X' G hg' hs hd
 | .cond c x y,X,a,σ,r,Q,hg,hN,h,hQ=>by
  simp only[AGz]at h
  obtain⟨t,h1,h2⟩:=AAz h
  refine wp_cond (t:=t) (Liz (Bcz hg hN c) h1) ?_
  cases t with
  |true=>exact Cgz hT hcall hm x hg hN (by simpa using h2) hQ
  |false=>exact Cgz hT hcall hm y hg hN (by simpa using h2) hQ
 | .block id b,X,a,σ,r,Q,hg,hN,h,hQ=>by
  simp only[AGz]at h
  obtain⟨⟨e,σ1⟩,h1,h2⟩:=AHz h
  refine wp_block (Cgz hT hcall hm b hg hN h1 fun a' X' G hg' hs hd=> ?_)
  cases e with
  |normal=>subst h2;exact hQ a' X' G hg' hs hd
  |ret=>subst h2;exact hQ a' X' G hg' hs hd
  |exit i=>
   simp only[exOf,Exit.inBlock]
   by_cases hi:i=id
   ·simp only[if_pos hi]at h2 ⊢
    subst h2;exact hQ a' X' G hg' hs hd
   ·simp only[if_neg hi]at h2 ⊢
    subst h2;exact hQ a' X' G hg' hs hd
 | .loop b,X,a,σ,r,Q,hg,hN,h,hQ=>by
  simp only[AGz]at h
  intro fr k cs
  obtain⟨e,a',w',hq,harr⟩:=Pjz (P:=P) (gv:=gv) (N:=N) (c:=b) (fun{X a σ r Q} hg hN h hQ=>by
   obtain⟨X1,hw,G,hg1⟩:=Ivz (N:=N) (E.D (BVz b)) hg (by rw[←hg.frame.1];unfold All;rw[List.length_append,Array.length_toList];omega)
   rw[←hw]
   exact Cgz hT hcall hm b hg1 hN h fun a' X' G' hg' hs hd=>hQ a' X' (G.trans G') hg' hs hd) n hg hN h hQ fr k cs
  exact⟨e,a',w',hq,.of_steps (.one step_loop) harr⟩
 | .exit id,X,a,σ,r,Q,hg,hN,h,hQ=>by
  simp only[AGz]at h;injection h with h;subst h
  exact wp_exit (hQ a X (.refl X) hg hN.symm rfl)
 | .ret,X,a,σ,r,Q,hg,hN,h,hQ=>by
  simp only[AGz]at h;injection h with h;subst h
  exact wp_ret (hQ a X (.refl X) hg hN.symm rfl)
 | .rangeFunc _ _ _ _,X,a,σ,r,Q,hg,hN,h,hQ=>by simp[AGz]at h
 | .scope _,X,a,σ,r,Q,hg,hN,h,hQ=>by simp[AGz]at h
 | .goto _,X,a,σ,r,Q,hg,hN,h,hQ=>by simp[AGz]at h
 | .refuse _,X,a,σ,r,Q,hg,hN,h,hQ=>by simp[AGz]at h
end
end Go.Proofs.YtblelojdboefjaaGreatDoor.R
namespace Go.Proofs.YtblelojdboefjaaGreatDoor.R
open Go
theorem ROz {X:Ctx} {k j N:Nat} {v:Value} {c:CV} (h:CVRel X k j v c):CVRel X k j v (weaken N c):=by
 cases h with
 |sh f p v h=>exact .sh f p v h
 |ow0 f es a=>exact .ow0 f es a
 |ow f es rows v blk off cap c elem fr h=>exact .ow f es rows v blk off cap c elem fr h
 |br0 s o q kd lo f es a=>exact .br0 s o q _ lo f es a
 |br s o q kd lo f es rows v blk base tip cap c elem fr h=>
  simp only[weaken]
  refine .br s o q _ lo f es rows v blk base tip cap c elem fr ⟨h.val,h.le,h.own,h.cells,h.fits,h.loose,h.tipLe,fun h1=> ?_,fun h1=> ?_,h.reads⟩
  ·split at h1
   ·rename_i hc;exact h.tip1 hc.2
   ·omega
  ·split at h1<;>omega
 |brv s o q lo f es rows v h=>
  simp only[weaken]
  rw[if_neg (by omega)]
  exact .brv s o q lo f es rows v h
 |dead v=>exact .dead v
theorem RNz {X:Ctx} {σ:St} {N:Nat} {v:Value} {c:CV} (h:OV X σ v c):OV X σ v (weaken N c):=by
 rcases h with h|⟨s,o,q,kd,lo,f,es,rows,rfl,h⟩
 ·exact .inl fun k j=>ROz (h k j)
 ·exact .inr ⟨s,o,q,_,lo,f,es,rows,rfl,h⟩
structure LeftC (X X':Ctx) (vs:List Value) (σ σ':St) (E:Nat→Nat→Prop) (P:Nat→Nat→Prop) (inl:Bool) (N:Nat) (m:CV→CV):Prop where
 goes:Goes X X'
 w:X'.w=X.w
 V:∀f b,X.V f b→X'.V f b
 good:Good X' vs σ' (fun a b=>E a b∨P a b)
 free:∀s p,¬P s p→Free X s p→Free X' s p
 noOw:∀s p,(ABz σ s p).isOw=false→(ABz σ' s p).isOw=false
 ov:∀w d,OV X σ w d→OV X' σ' w (m d)
 firm:∀k p v c,Firm σ k p c→CVRel X k p v c→CVRel X' k p v c
 hi:inl=true→∀b s p q base tip,N≤s→X.own b=some (s,p,q,base,tip)→X'.own b=some (s,p,q,base,tip)
 size:σ'.length=σ.length
 shape:∀(d:Nat) (sh:Shape),(∃m,σ'[d]? =some (.c sh m))↔∃m,σ[d]? =some (.c sh m)
theorem LeftC.trans {X Y Z:Ctx} {vs:List Value} {σ τ ρ:St} {E P P':Nat→Nat→Prop} {inl:Bool} {N:Nat} {m m':CV→CV} (a:LeftC X Y vs σ τ E P inl N m) (b:LeftC Y Z vs τ ρ (fun x y=>E x y∨P x y) P' inl N m'):LeftC X Z vs σ ρ E (fun x y=>P x y∨P' x y) inl N (fun c=>m' (m c)):=
  ⟨a.goes.trans b.goes,b.w.trans a.w,fun f k h=>b.V f k (a.V f k h),b.good.weak fun x y h=>by rcases h with(h|h)|h<;>simp[h],fun s p hn h=>b.free s p (fun e=>hn (.inr e)) (a.free s p (fun e=>hn (.inl e)) h),fun s p h=>b.noOw s p (a.noOw s p h),fun w d h=>b.ov w _ (a.ov w d h),
   fun k p v c hf h=>b.firm k p v c (hf.keep a.noOw) (a.firm k p v c hf h),fun hi k s p q base tip hN h=>b.hi hi k s p q base tip hN (a.hi hi k s p q base tip hN h),b.size.trans a.size,fun d sh=>(b.shape d sh).trans (a.shape d sh)⟩
theorem LeftC.re {X X':Ctx} {vs:List Value} {σ σ':St} {E P P':Nat→Nat→Prop} {inl:Bool} {N:Nat} {m:CV→CV} (a:LeftC X X' vs σ σ' E P inl N m) (h:∀x y,P x y→P' x y):LeftC X X' vs σ σ' E P' inl N m:=
 {a with good:=a.good.weak fun x y=>Or.imp id (h x y),free:=fun s p hn hf=>a.free s p (fun e=>hn (h s p e)) hf}
def Solid (inl:Bool) (N:Nat):CV→Prop
 | .br s _ _ _ _ _ _ _=>inl=true∧N≤s
 | .dead=>False
 |_=>True
theorem QPz {N:Nat} {c:CV} (h:Solid false N c):noBr c=true:=by cases c<;>simp[Solid,noBr]at h ⊢
theorem LeftC.cell {X X':Ctx} {vs:List Value} {σ σ':St} {E P:Nat→Nat→Prop} {inl:Bool} {N:Nat} {m:CV→CV} (L:LeftC X X' vs σ σ' E P inl N m) {d j:Nat} {v:Value} {c:CV} (hd:(ABz σ d j).isOw=false) (hs:Solid inl N c) (h:CVRel X d j v c):CVRel X' d j v c:=by
 cases c with
 |sh f p=>exact L.firm _ _ _ _ trivial h
 |ow f es rows=>exact L.firm _ _ _ _ hd h
 |dead=>exact .dead v
 |br s o q kd lo f es rows=>
  obtain⟨hi,hN⟩:=hs
  have hV:∀b,X.V f b→X'.V f b∧X'.w.heap[b]? =X.w.heap[b]? :=fun b hb=>⟨L.V f b hb,by rw[L.w]⟩
  have hO:∀b q base tip,X.own b=some (s,o+1,q,base,tip)→X'.own b=some (s,o+1,q,base,tip)∧X'.w.heap[b]? =X.w.heap[b]? :=fun b q base tip ho=>⟨L.hi hi b s (o+1) q base tip hN ho,by rw[L.w]⟩
  cases h with
  |br0 _ _ _ _ _ _ _ a=>exact .br0 s o q kd lo f es a
  |br _ _ _ _ _ _ _ _ _ blk base tip cap c elem fr h=>exact .br s o q kd lo f es rows v blk base tip cap c elem fr ⟨h.val,h.le,(hO _ _ _ _ h.own).1,(hO _ _ _ _ h.own).2.trans h.cells,h.fits,h.loose,h.tipLe,h.tip1,h.lo0,h.reads.mono hV hO⟩
  |brv _ _ _ _ _ _ _ _ h=>exact .brv s o q lo f es rows v (h.mono hV hO)
theorem O3z {X:Ctx} {vs:List Value} {σ σ':St} {E:Nat→Nat→Prop} {mo inl:Bool} {N d j:Nat} {v:Value} {c c':CV} {m:CV→CV} (h:Good X vs σ E) (hov:OV X σ v c) (hfree:Free X d j) (hd:(ABz σ d j).isOw=false)
  (he:Enz mo inl N d j c σ=some (σ',m,c')):∃X',LeftC X X' vs σ σ' E (fun a b=>a=d∧b=j) inl N m∧CVRel X' d j v c'∧(c'.isOw=false→Free X' d j)∧Solid inl N c':=by
 have viaP:∀{c0:CV} {r:St×CV},OV X σ v c0→(∀s o q kd lo f es rows,c0= .br s o q kd lo f es rows→inl=true→s<N)→(∀s o q kd lo f es rows,c0= .br s o q kd lo f es rows→q=[])→persist none d j c0 σ=some r→∃X',LeftC X X' vs σ r.1 E (fun a b=>a=d∧b=j) inl N id∧CVRel X' d j v r.2∧(r.2.isOw=false→Free X' d j)∧Solid inl N r.2:=fun{c0 r} ho hlow hq hp=>by
  obtain⟨X',p,keep⟩:=F2z h ho hfree hp
  refine⟨X',⟨p.laid.goes,p.laid.w,p.laid.V,p.good,p.free,p.noOw,p.ov,fun k p' v c hf h=>p.laid.cv hf h,fun hi b s p' q base tip hN ho=>keep b s p' q base tip ho fun o q kd lo f es rows e=> ?_,G0z hp,fun d sh=>Huz hp d sh⟩,p.cv,p.tag,?_⟩
  ·have:=hlow _ _ _ _ _ _ _ _ e hi;omega
  ·have hnd:=GVz hp
   cases hc:r.2 with
   |br s o q kd lo f es rows=>
    exfalso
    unfold persist at hp
    split at hp
    ·injection hp with hp;rw[←hp]at hc;simp at hc
    ·injection hp with hp;rw[←hp]at hc;simp at hc
    ·rename_i s1 o1 q1 kd1 lo1 f1 es1 rows1
     have:=hq _ _ _ _ _ _ _ _ rfl
     subst this
     simp only[keeps,List.isEmpty_nil,Bool.not_true,Bool.or_false,Bool.false_eq_true,if_false]at hp
     split at hp
     ·split at hp
      ·injection hp with hp;rw[←hp]at hc;simp at hc
      ·split at hp
       ·injection hp with hp;rw[←hp]at hc;simp at hc
       ·injection hp with hp;rw[←hp]at hc;simp at hc
     ·simp at hp
    ·simp at hp
   |dead=>exact absurd hc hnd
   |sh f p=>trivial
   |ow f es rows=>trivial
 unfold Enz at he
 split at he
 ·rename_i s o q kd lo f es rows
  split at he
  ·rename_i hk
   simp only[Bool.and_eq_true,decide_eq_true_eq]at hk
   split at he
   ·rename_i hc
    injection he with he;injection he with e1 he;injection he with e2 e3;subst e1;subst e2;subst e3
    have hv0:=hov.resolve_right (by rintro⟨_,_,_,_,_,_,_,_,h,h1⟩;cases h;simp[hc]at h1) d j
    exact⟨X,⟨.refl X,rfl,fun _ _ h=>h,h.weak fun _ _=> .inl,fun _ _ _ h=>h,fun _ _ h=>h,fun _ _ h=>h,fun _ _ _ _ _ h=>h,fun _ _ _ _ _ _ _ _ h=>h,rfl,fun _ _=>Iff.rfl⟩,hv0,fun _=>hfree,hk.1,hk.2⟩
   ·simp at he
  ·rename_i hk
   have hlow:inl=true→s<N:=fun hi=>by
    simp only[hi,Bool.true_and,decide_eq_true_eq]at hk
    omega
   split at he
   ·obtain⟨r,h1,h2⟩:=AHz he
    injection h2 with e1 h2;injection h2 with e2 e3;subst e1;subst e2;subst e3
    exact viaP (RNz hov) (fun s1 o1 q1 kd1 lo1 f1 es1 rows1 e hi=>by simp only[weaken]at e;injection e with e;subst e;exact hlow hi) (fun s1 o1 q1 kd1 lo1 f1 es1 rows1 e=>by simp only[weaken]at e;injection e with _ _ e;exact e.symm) h1
   ·rename_i a q
    split at he
    case isFalse=>simp at he
    rename_i hc
    have hv0:=hov.resolve_right (by rintro⟨_,_,_,_,_,_,_,_,h,h1⟩;cases h;simp[hc]at h1) 0 0
    split at he
    ·rename_i hmk
     simp only[Bool.and_eq_true,beq_iff_eq]at hmk
     obtain⟨_,rfl⟩:=hmk
     injection he with he;injection he with e1 he;injection he with e2 e3;subst e1;subst e2;subst e3
     have hne:¬(s=d∧o=j):=by rintro⟨rfl,rfl⟩;rw[hc]at hd;simp at hd
     have k:=Nkz (q:=a::q) (q':=[]) h hc hne (fun r b base tip=>hfree b _ base tip)
     refine⟨_,⟨k.goes,k.w,k.V,k.good,fun s p hn hf=>k.free s p hn hf,k.noOw,k.ov,k.firm,fun hi b s1 p q1 base tip hN ho=>BEz ho fun e=>by have:=hlow hi;omega,k.size,fun d sh=>Bmz _ _ _ _ _⟩,?_,fun e=>by simp[CV.isOw]at e,trivial⟩
     have:=(OTz hv0).turns (H9z (s':=d) (o':=j) (q':=[]) (q:=a::q) _) ⟨[],by simp⟩
     simp only[List.drop_length,List.append_nil]at this
     exact NLz this
    ·injection he with he;injection he with e1 he;injection he with e2 e3;subst e1;subst e2;subst e3
     have k:=EAz h hc
     exact⟨_,⟨k.goes,k.w,k.V,k.good.weak fun _ _=> .inl,fun s p _ hf=>k.free s p hf,k.noOw,k.ov,k.firm,fun hi b s1 p q1 base tip hN ho=>BEz ho fun e=>by have:=hlow hi;omega,k.size,fun d sh=>Bmz _ _ _ _ _⟩,.sh f _ v (GIz trivial (fun _ _ _=>rfl) hv0),fun _=>k.free d j hfree,trivial⟩
 ·rename_i hno
  obtain⟨r,h1,h2⟩:=AHz he
  injection h2 with e1 h2;injection h2 with e2 e3;subst e1;subst e2;subst e3
  exact viaP hov (fun s o q kd lo f es rows e=>absurd e (hno _ _ _ _ _ _ _ _)) (fun s o q kd lo f es rows e=>absurd e (hno _ _ _ _ _ _ _ _)) h1
theorem Hvz (vs:List Value) {mo inl:Bool} {N d:Nat}:∀{l:List CV} {vals:List Value} {X:Ctx} {σ σ':St} {E:Nat→Nat→Prop} {j:Nat} {m:CV→CV} {l':List CV},Good X vs σ E→OCells X σ vals (l.map m)→
  (∀p,j≤p→Free X d p)→(∀p,(ABz σ d p).isOw=false)→Dfz mo inl N d j m l σ=some (σ',l')→
  ∃X' m',LeftC X X' vs σ σ' E (fun a b=>a=d∧j≤b∧b<j+l.length) inl N m'∧CellsRel X' d j vals l'∧l'.length=l.length∧(∀(p:Nat) (c:CV),l'[p]? =some c→c.isOw=false→Free X' d (j+p))∧∀c∈l',Solid inl N c
 |[],vals,X,σ,σ',E,j,m,l',h,ho,hf,hd,he=>by
  simp only[Dfz]at he
  injection he with he;injection he with e1 e2;subst e1;subst e2
  cases ho
  exact⟨X,id,⟨.refl X,rfl,fun _ _ h=>h,h.weak fun _ _=> .inl,fun _ _ _ h=>h,fun _ _ h=>h,fun _ _ h=>h,fun _ _ _ _ _ h=>h,fun _ _ _ _ _ _ _ _ h=>h,rfl,fun _ _=>Iff.rfl⟩,.nil j,rfl,fun p c hc=>by simp at hc,fun c hc=>by simp at hc⟩
 |c::l,vals,X,σ,σ',E,j,m,l',h,ho,hf,hd,he=>by
  cases ho with
  |cons v _ vals _ hov ho=>
  simp only[Dfz]at he
  obtain⟨⟨σ1,m1,c'⟩,e1,he⟩:=AAz he
  obtain⟨⟨σ2,l2⟩,e2,he⟩:=AHz he
  injection he with e3 e4;subst e3;subst e4
  obtain⟨X1,L1,hcv,htag,hsol⟩:=O3z h hov (hf j (Nat.le_refl _)) (hd j) e1
  have ho1:OCells X1 σ1 vals (l.map fun x=>m1 (m x)):=by
   have:OCells X1 σ1 vals ((l.map m).map m1):=by
    clear e2
    generalize l.map m=l1 at ho
    induction ho with
    |nil=>exact .nil
    |cons v c vs l h t ih=>exact .cons v _ vs _ (L1.ov _ _ h) ih
   simpa[List.map_map,Function.comp_def]using this
  obtain⟨X2,m2,L2,hrel,hlen,htags,hsols⟩:=Hvz vs L1.good ho1 (fun p hp=>L1.free d p (by omega) (hf p (by omega))) (fun p=>L1.noOw d p (hd p)) e2
  refine⟨X2,_,(L1.trans L2).re fun x y hxy=> ?_,.cons j v c' vals l2 (L2.cell (L1.noOw d j (hd j)) hsol hcv) hrel,by simp[hlen],?_,?_⟩
  ·rcases hxy with⟨h1,h2⟩|⟨h1,h2,h3⟩
   ·exact⟨h1,by omega,by simp;omega⟩
   ·exact⟨h1,by omega,by simp;omega⟩
  ·intro p c1 h1 h2
   cases p with
   |zero=>
    simp at h1;subst h1
    exact L2.free _ _ (by omega) (htag h2)
   |succ p=>
    have:=htags p c1 (by simpa using h1) h2
    rw[show j+(p+1)=j+1+p from by omega]
    exact this
  ·intro c1 h1
   rcases List.mem_cons.1 h1 with e|e
   ·subst e;exact hsol
   ·exact hsols c1 e
theorem LeftC.cellsR {X X':Ctx} {vs:List Value} {σ σ':St} {E P:Nat→Nat→Prop} {inl:Bool} {N:Nat} {m:CV→CV} (L:LeftC X X' vs σ σ' E P inl N m) {d:Nat} (hd:∀p,(ABz σ d p).isOw=false):∀{j:Nat} {vs:List Value} {l:List CV},(∀c∈l,Solid inl N c)→CellsRel X d j vs l→CellsRel X' d j vs l
 |j,[],[],hs,.nil _=> .nil j
 |j,v::vs,c::l,hs,.cons _ _ _ _ _ h t=> .cons j v c vs l (L.cell (hd j) (hs c (by simp)) h) (LeftC.cellsR L hd (fun c hc=>hs c (by simp[hc])) t)
structure Left (P:Program) (X X':Ctx) (vs:List Value) (σ σ':St) (E:Nat→Nat→Prop) (inl:Bool) (N d j:Nat) (vals:List Value) (fs:List (List Value)) (shapes:List (Bool×Nat)) (cells:List CV):Prop where
 left:∃m,LeftC X X' vs σ σ' E (fun a b=>a=d∧j≤b∧b<j+cells.length) inl N m
 rel:CellsRel X' d j fs.flatten cells
 nums:vals.length=shapes.length∧fs.length=shapes.length
 flat:∀(i:Nat) (v:Value) (a:Bool) (n:Nat) (f:List Value),vals[i]? =some v→shapes[i]? =some (a,n)→fs[i]? =some f→f.length=n∧((a=true∧∃cs:Array Value,v= .agg cs∧f=cs.toList)∨(a=false∧f=[v]∧∀cs,v≠ .agg cs))
 tag:∀(p:Nat) (c:CV),cells[p]? =some c→c.isOw=false→Free X' d (j+p)
 solid:∀c∈cells,Solid inl N c
def Frz (tmps:Array Value):ResultVar→Sem Value
 | .tmp t=>pure (tmps.getD t undef)
 | .cell a t=>do loadVar t (←asAddr (tmps.getD a undef))
theorem Jpz {P:Program} {T:Tys} (hT:TOk P T) {a:Act} {gv:List Value} {inl:Bool} {N:Nat} (hN:N=a.tmps.size) {d:Nat}:∀{rs:List ResultVar} {X:Ctx} {σ σ':St} {E:Nat→Nat→Prop} {j:Nat} {shapes:List (Bool×Nat)} {cells:List CV},Good X (All a gv) σ E→(∀p,(ABz σ d p).isOw=false)→
    (∀p,j≤p→Free X d p)→BGz T inl N d j rs σ=some (σ',shapes,cells)→∃X' vals fs,Left P X X' (All a gv) σ σ' E inl N d j vals fs shapes cells∧rs.length=vals.length∧
      ∀(i:Nat) (x:ResultVar) (v:Value),rs[i]? =some x→vals[i]? =some v→(Frz a.tmps x).run P X.w= .ok v X.w
  |[],X,σ,σ',E,j,shapes,cells,hg,hd,hf,h=>by
    simp only[BGz]at h
    injection h with h;injection h with h1 h;injection h with h2 h3;subst h1;subst h2;subst h3
    refine⟨X,[],[],⟨⟨id,.refl X,rfl,fun _ _ h=>h,hg.weak fun _ _=> .inl,fun _ _ _ h=>h,fun _ _ h=>h,fun _ _ h=>h,fun _ _ _ _ _ h=>h,fun _ _ _ _ _ _ _ _ h=>h,rfl,fun _ _=>Iff.rfl⟩,.nil j,⟨rfl,rfl⟩,fun i v a n f hv=>by simp at hv,fun p c hc=>by simp at hc,fun c hc=>by simp at hc⟩,rfl,fun i x v hx=>by simp at hx⟩
  |x::rs,X,σ,σ',E,j,shapes,cells,hg,hd,hf,h=>by
    simp only[BGz]at h
    obtain⟨y,hy,h⟩:=AAz h
    obtain⟨⟨ag,cs⟩,hr,h⟩:=AAz h
    obtain⟨⟨σ1,l'⟩,hp,h⟩:=AAz h
    obtain⟨⟨σ2,shapes2,cells2⟩,hrest,h⟩:=AHz h
    injection h with h1 h;injection h with h2 h3;subst h1;subst h2;subst h3
    simp only at hp hrest
   
    have hval:∃v,(Frz a.tmps x).run P X.w= .ok v X.w∧OSV X v y:=by
      cases x with
      |tmp t=>
        simp only[EKz]at hy
        injection hy with hy
        exact⟨_,rfl,by rw[←hy];exact Bcz hg hN (.tmp t)⟩
      |cell b t=>
        simp only[EKz]at hy
        have hb:=Bcz (T:=T) (ty:=0) hg hN (.tmp b)
        obtain⟨v,hv,ho⟩:=Pkz (P:=P) hT hg hb hy
        refine⟨v,?_,ho⟩
        unfold Frz
        simp only[Instr.loadAt,Sem.run_bind,Act.eval]at hv
        simp only[Sem.run_bind]
        cases hu:a.tmps.getD b undef with
        |pointer ad=>
          cases ad with
          |none=>rw[hu]at hv;simp[Instr.sureAddr,stuck]at hv
          |some ad=>
            rw[hu]at hv
            simp only[Instr.sureAddr,asAddr,Sem.run_pure,Result.andThen_ok]at hv ⊢
            exact hv
        |_=>rw[hu]at hv;simp[Instr.sureAddr,stuck]at hv
    obtain⟨v,hrun,hov⟩:=hval
    have hflat:∃us,VCells X us cs∧us.length=cs.length∧((ag=true∧∃c:Array Value,v= .agg c∧us=c.toList)∨(ag=false∧us=[v]∧∀c,v≠ .agg c)):=by
      unfold KLz at hr
      split at hr
      · rename_i l
        injection hr with hr;injection hr with e1 e2;subst e1;subst e2
        obtain⟨us,hf,hc⟩:=CGz hov (by simp)
        cases hf with
        |one _ hn=>exact⟨[v],hc,hc.length,.inr ⟨rfl,rfl,hn⟩⟩
      · rename_i l
        injection hr with hr;injection hr with e1 e2;subst e1;subst e2
        obtain⟨us,hf,hc⟩:=CGz hov (by simp)
        cases hf with
        |agg c=>exact⟨c.toList,hc,hc.length,.inl ⟨rfl,c,rfl,rfl⟩⟩
      · simp at hr
    obtain⟨us,hc,hul,hsh⟩:=hflat
    obtain⟨X1,m1,L1,hrel1,hlen1,htag1,hsol1⟩:=Hvz (All a gv) (m:=id) hg (by simpa using hc.ocells) hf hd hp
    obtain⟨X2,vals,fs,L,hlen,hvals⟩:=Jpz hT hN (rs:=rs) (j:=j+cs.length) L1.good (fun p=>L1.noOw d p (hd p)) (fun p hp=>L1.free d p (by omega) (hf p (by omega))) hrest
    obtain⟨m2,L2⟩:=L.left
    refine⟨X2,v::vals,us::fs,⟨⟨_,(L1.trans L2).re fun x y hxy=> ?_⟩,?_,⟨by simp[L.nums.1],by simp[L.nums.2]⟩,?_,?_,?_⟩,by simp[hlen],?_⟩
    · rcases hxy with⟨h1,h2,h3⟩|⟨h1,h2,h3⟩
      · exact⟨h1,h2,by simp[hlen1];omega⟩
      · exact⟨h1,by omega,by simp[hlen1];omega⟩
    · simp only[List.flatten_cons]
      refine CellsRel.append (L2.cellsR (fun p=>L1.noOw d p (hd p)) hsol1 hrel1) ?_
      rw[hlen1]
      exact L.rel
    · intro i u b n f hv hs hfi
      cases i with
      |zero=>
        simp at hv hs hfi
        obtain⟨rfl,rfl⟩:=hs
        subst hv;subst hfi
        exact⟨hul,hsh⟩
      |succ i=>exact L.flat i u b n f (by simpa using hv) (by simpa using hs) (by simpa using hfi)
    · intro p c hpc hno
      by_cases hlt:p<l'.length
      · rw[List.getElem?_append_left hlt]at hpc
        refine L2.free d (j+p) (by omega) (htag1 p c hpc hno)
      · rw[List.getElem?_append_right (Nat.le_of_not_lt hlt)]at hpc
        have:=L.tag _ c hpc hno
        rw[show j+cs.length+(p - l'.length)=j+p from by omega]at this
        exact this
    · intro c hc
      rcases List.mem_append.1 hc with h1|h1
      · exact hsol1 c h1
      · exact L.solid c h1
    · intro i y u hx hv
      cases i with
      |zero=>
        simp at hx hv
        subst hx;subst hv
        exact hrun
      |succ i=>
        have:=hvals i y u (by simpa using hx) (by simpa using hv)
        rw[L1.w]at this
        exact this
end Go.Proofs.YtblelojdboefjaaGreatDoor.R
