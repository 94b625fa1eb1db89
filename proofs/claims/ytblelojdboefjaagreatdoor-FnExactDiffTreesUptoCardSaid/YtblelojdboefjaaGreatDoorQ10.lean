/- The list of what lies in a tree: the program's walk. -/
import Derived.Test.YtblelojdboefjaaGreatDoorQ9
import Derived.Test.YtblelojdboefjaaGreatDoorQ8
import Derived.Test.YtblelojdboefjaaGreatDoorQ7
set_option linter.all false
set_option maxRecDepth 100000
namespace Go.Proofs.YtblelojdboefjaaGreatDoor.R
open Go
theorem PYz {l:List TInode} {ps:List (List UInt8)} {i:Nat} {p:List UInt8} (h:ps[i]? =some p):((ps.take (i+1)).map (A0z l ps)).map TEntry.ov=((ps.take i).map (A0z l ps)).map TEntry.ov++[(A0z l ps p).ov]:=by
 rw[List.take_add_one,h];simp
set_option maxHeartbeats 8000000 in
theorem Ilz (n:Nat) (hn:Big+41≤n) (t:TTab) (ht:t.ok):pcall env n 46 [.c .agg (t.pv.map ASz)] []=some ⟨.c .one [.ow false 5 ((Anz t).map TEntry.ov)],[]⟩:=by
 obtain⟨m,rfl⟩:=AFz hn
 have hB:=AXz
 have hbd:Bd=1048576:=rfl
 have hlim:LIM=70368744177664:=rfl
 have hpt:=L9z m (by omega) t ht
 simp only[go_sem]at hpt
 have hlen:=Grz t
 have hsz:=fun q (hq:q∈BEz t)=>Fuz hq
 have htr:=fun q (hq:q∈BEz t)=>KMz hq
 unfold Anz
 generalize BEz t=ps at hpt hlen hsz htr ⊢
 refine ARz (ADz (fn:=Tryz.f46) rfl rfl rfl (Nat.le_of_ble_eq_true rfl) ?_)
 unfold Tryz.f46
 simp only[go_sem,Nat.reduceLT,Nat.reduceAdd,Nat.reduceSub,Nat.reduceEqDiff,Nat.reduceLeDiff,Int.reduceEq,Int.reduceBEq,Int.reduceBNe,Int.reduceNeg,UInt8.reduceToNat,Nat.reduceBEq,hpt,Nat.zero_mul,Nat.zero_le]
 refine AGz (fun r σ=>∃(i:Nat),i≤ps.length∧r=ps.length - i∧σ=slots 62 [(1,.c .box [.sh true (.s 6 (t.Inodes.map TInode.pv)),.sh false (.i .i64 t.Next)]),(3,.c .one [.ow false 5 (((ps.take i).map (A0z t.Inodes ps)).map TEntry.ov)]),(15,.c .one [.ow false 1 (ps.map ppv)]),(16,.c .one [.sh false (.i .i64 (ps.length:Nat))]),(17,.c .one [.sh false (.i .i64 (i:Nat))])]) ps.length (by omega) ?_ ?_
 ·simp only[go_sem,Nat.reduceLT,Nat.reduceAdd,Nat.reduceSub,Nat.reduceEqDiff,Nat.reduceLeDiff,Int.reduceEq,Int.reduceBEq,Int.reduceBNe,Int.reduceNeg,UInt8.reduceToNat,Nat.reduceBEq]
  exact⟨0,Nat.zero_le _,rfl,rfl⟩
 ·rintro r σ ⟨i,hi,rfl,rfl⟩
  by_cases hlt:i<ps.length
  ·have h1:((i:Int)<(ps.length:Int)):=by omega
   have hx:ps[i]? =some ps[i]:=List.getElem?_eq_getElem hlt
   have hT:=htr _ (List.getElem_mem hlt)
   have hq:=hsz _ (List.getElem_mem hlt)
   generalize ps[i]=p at hx hq
   have hst:=Naz m (by omega) t ht p (by omega)
   simp only[go_sem]at hst
   have hds:=PYz (l:=t.Inodes) hx
   have htl:(ps.take i).length=i:=by rw[List.length_take];omega
   have l1:((ps.take i).length+1)*88≤LIM:=by rw[htl];omega
   rcases JLz t.Inodes p with⟨c,hs1,hs2⟩|⟨x,hs2,hs1⟩
   ·rw[hs1]at hst
    simp only[go_sem,Bpz]at hst
    simp only[go_sem,Nat.reduceLT,Nat.reduceAdd,Nat.reduceSub,Nat.reduceEqDiff,Nat.reduceLeDiff,Int.reduceEq,Int.reduceBEq,Int.reduceBNe,Int.reduceNeg,UInt8.reduceToNat,Nat.reduceBEq,h1,hx,hst]
    refine AGz (fun r' σ=>∃j:Nat,j≤i∧r'=i - j∧(∀(a:Nat) (q:List UInt8),a<j→ps[a]? =some q→((Amz t.Inodes q).1==0)=false)∧σ=slots 62 [(1,.c .box [.sh true (.s 6 (t.Inodes.map TInode.pv)),.sh false (.i .i64 t.Next)]),(3,.c .one [.ow false 5 (((ps.take i).map (A0z t.Inodes ps)).map TEntry.ov)]),(5,.c .one [.sh false (.t ⟨⟨p⟩⟩)]),(6,.c .box [.sh false (.i .i64 0),.sh false (.i .i64 0),.sh false (.i .i64 0),.ow false 1 [],.ow false 2 [],.ow false 2 []]),(8,.c .one [.sh false (.t ⟨⟨p⟩⟩)]),(15,.c .one [.ow false 1 (ps.map ppv)]),(16,.c .one [.sh false (.i .i64 (ps.length:Nat))]),(17,.c .one [.sh false (.i .i64 (i:Nat))]),(28,.c .one [.br 3 0 [] 0 0 false 5 (((ps.take i).map (A0z t.Inodes ps)).map TEntry.ov)]),(29,.c .one [.sh false (.i .i64 (i:Nat))]),(30,.c .one [.sh false (.i .i64 (j:Nat))])]) i (by omega) ?_ ?_
    ·simp only[go_sem,Nat.reduceLT,Nat.reduceAdd,Nat.reduceSub,Nat.reduceEqDiff,Nat.reduceLeDiff,Int.reduceEq,Int.reduceBEq,Int.reduceBNe,Int.reduceNeg,UInt8.reduceToNat,Nat.reduceBEq,htl]
     exact⟨0,Nat.zero_le _,rfl,fun i y hi=>absurd hi (Nat.not_lt_zero _),rfl⟩
    ·rintro r' σ ⟨j,hj,rfl,hpr,rfl⟩
     by_cases hlt2:j<i
     ·have h2:((j:Int)<(i:Int)):=by omega
      have hjl:j<ps.length:=by omega
      have hxj:ps[j]? =some ps[j]:=List.getElem?_eq_getElem hjl
      have hqs:=hsz _ (List.getElem_mem hjl)
      generalize ps[j]=q at hxj hqs
      have hxt:(ps.take i)[j]? =some q:=by rw[List.getElem?_take_of_lt hlt2,hxj]
      have hw:=GCz m (by omega) t ht q (by omega)
      simp only[go_sem,tup2]at hw
      cases ha:((Amz t.Inodes q).1==0)with
      |true=>
       have hfq:BHz t.Inodes ps (stI t.Inodes q).Ino=BHz t.Inodes ps (stI t.Inodes p).Ino:=Jwz hT (by rw[hs2];exact ha)
       simp only[go_sem,Nat.reduceLT,Nat.reduceAdd,Nat.reduceSub,Nat.reduceEqDiff,Nat.reduceLeDiff,Int.reduceEq,Int.reduceBEq,Int.reduceBNe,Int.reduceNeg,UInt8.reduceToNat,Nat.reduceBEq,h2,hxt,hw,ha,A0z,l1]
       have he:(A0z t.Inodes ps p).ov=[.t ⟨⟨p⟩⟩,.i .i64 0,.o 1 [],.o 2 [],.t ⟨⟨BHz t.Inodes ps (stI t.Inodes q).Ino⟩⟩]:=by unfold A0z;rw[←hfq,hs2];rfl
       refine⟨_,by omega,i+1,hlt,rfl,?_⟩
       rw[hds,he,ACz hlt (by omega)]
      |false=>
       simp only[go_sem,Nat.reduceLT,Nat.reduceAdd,Nat.reduceSub,Nat.reduceEqDiff,Nat.reduceLeDiff,Int.reduceEq,Int.reduceBEq,Int.reduceBNe,Int.reduceNeg,UInt8.reduceToNat,Nat.reduceBEq,h2,hxt,hw,ha,A0z,ACz hlt2 (by omega)]
       refine⟨_,by omega,j+1,hlt2,rfl,fun a y hi hy=> ?_,by with_reducible rfl⟩
       rcases Nat.lt_succ_iff_lt_or_eq.1 hi with h|h
       ·exact hpr a y h hy
       ·subst h;rw[hxj]at hy;injection hy with hy;subst hy;exact ha
     ·have h2:¬((j:Int)<(i:Int)):=by omega
      obtain rfl:j=i:=by omega
      have hfp:BHz t.Inodes ps (stI t.Inodes p).Ino=p:=Mpz hT hx (by rw[hs2];exact hpr)
      simp only[go_sem,Nat.reduceLT,Nat.reduceAdd,Nat.reduceSub,Nat.reduceEqDiff,Nat.reduceLeDiff,Int.reduceEq,Int.reduceBEq,Int.reduceBNe,Int.reduceNeg,UInt8.reduceToNat,Nat.reduceBEq,h2,l1]
      have he:(A0z t.Inodes ps p).ov=[.t ⟨⟨p⟩⟩,.i .i64 0,.o 1 [],.o 2 [],.t ⟨⟨p⟩⟩]:=by unfold A0z;rw[hfp,hs2];rfl
      refine⟨_,by omega,j+1,hlt,rfl,?_⟩
      rw[hds,he,ACz hlt (by omega)]
   ·rw[hs1]at hst
    simp only[go_sem,BMz]at hst
    simp only[go_sem,Nat.reduceLT,Nat.reduceAdd,Nat.reduceSub,Nat.reduceEqDiff,Nat.reduceLeDiff,Int.reduceEq,Int.reduceBEq,Int.reduceBNe,Int.reduceNeg,UInt8.reduceToNat,Nat.reduceBEq,h1,hx,hst]
    refine AGz (fun r' σ=>∃j:Nat,j≤i∧r'=i - j∧(∀(a:Nat) (q:List UInt8),a<j→ps[a]? =some q→((Amz t.Inodes q).1==x.Ino)=false)∧σ=slots 62 [(1,.c .box [.sh true (.s 6 (t.Inodes.map TInode.pv)),.sh false (.i .i64 t.Next)]),(3,.c .one [.ow false 5 (((ps.take i).map (A0z t.Inodes ps)).map TEntry.ov)]),(5,.c .one [.sh false (.t ⟨⟨p⟩⟩)]),(6,.c .box [.sh false (.i .i64 x.Ino),.sh false (.i .i64 x.Kind),.sh false (.i .i64 x.Links),.ow false 1 (x.Data.map bpv),.ow false 2 (x.Ents.map TEnt.pv),.ow false 2 (x.Attrs.map TAttr.pv)]),(8,.c .one [.sh false (.t ⟨⟨p⟩⟩)]),(15,.c .one [.ow false 1 (ps.map ppv)]),(16,.c .one [.sh false (.i .i64 (ps.length:Nat))]),(17,.c .one [.sh false (.i .i64 (i:Nat))]),(28,.c .one [.br 3 0 [] 0 0 false 5 (((ps.take i).map (A0z t.Inodes ps)).map TEntry.ov)]),(29,.c .one [.sh false (.i .i64 (i:Nat))]),(30,.c .one [.sh false (.i .i64 (j:Nat))])]) i (by omega) ?_ ?_
    ·simp only[go_sem,Nat.reduceLT,Nat.reduceAdd,Nat.reduceSub,Nat.reduceEqDiff,Nat.reduceLeDiff,Int.reduceEq,Int.reduceBEq,Int.reduceBNe,Int.reduceNeg,UInt8.reduceToNat,Nat.reduceBEq,htl]
     exact⟨0,Nat.zero_le _,rfl,fun i y hi=>absurd hi (Nat.not_lt_zero _),rfl⟩
    ·rintro r' σ ⟨j,hj,rfl,hpr,rfl⟩
     by_cases hlt2:j<i
     ·have h2:((j:Int)<(i:Int)):=by omega
      have hjl:j<ps.length:=by omega
      have hxj:ps[j]? =some ps[j]:=List.getElem?_eq_getElem hjl
      have hqs:=hsz _ (List.getElem_mem hjl)
      generalize ps[j]=q at hxj hqs
      have hxt:(ps.take i)[j]? =some q:=by rw[List.getElem?_take_of_lt hlt2,hxj]
      have hw:=GCz m (by omega) t ht q (by omega)
      simp only[go_sem,tup2]at hw
      cases ha:((Amz t.Inodes q).1==x.Ino)with
      |true=>
       have hfq:BHz t.Inodes ps (stI t.Inodes q).Ino=BHz t.Inodes ps (stI t.Inodes p).Ino:=Jwz hT (by rw[←hs2];exact ha)
       simp only[go_sem,Nat.reduceLT,Nat.reduceAdd,Nat.reduceSub,Nat.reduceEqDiff,Nat.reduceLeDiff,Int.reduceEq,Int.reduceBEq,Int.reduceBNe,Int.reduceNeg,UInt8.reduceToNat,Nat.reduceBEq,h2,hxt,hw,ha,A0z,l1]
       have he:(A0z t.Inodes ps p).ov=[.t ⟨⟨p⟩⟩,.i .i64 x.Kind,.o 1 (x.Data.map bpv),.o 2 (x.Attrs.map TAttr.pv),.t ⟨⟨BHz t.Inodes ps (stI t.Inodes q).Ino⟩⟩]:=by unfold A0z;rw[←hfq,←hs2];rfl
       refine⟨_,by omega,i+1,hlt,rfl,?_⟩
       rw[hds,he,ACz hlt (by omega)]
      |false=>
       simp only[go_sem,Nat.reduceLT,Nat.reduceAdd,Nat.reduceSub,Nat.reduceEqDiff,Nat.reduceLeDiff,Int.reduceEq,Int.reduceBEq,Int.reduceBNe,Int.reduceNeg,UInt8.reduceToNat,Nat.reduceBEq,h2,hxt,hw,ha,A0z,ACz hlt2 (by omega)]
       refine⟨_,by omega,j+1,hlt2,rfl,fun a y hi hy=> ?_,by with_reducible rfl⟩
       rcases Nat.lt_succ_iff_lt_or_eq.1 hi with h|h
       ·exact hpr a y h hy
       ·subst h;rw[hxj]at hy;injection hy with hy;subst hy;exact ha
     ·have h2:¬((j:Int)<(i:Int)):=by omega
      obtain rfl:j=i:=by omega
      have hfp:BHz t.Inodes ps (stI t.Inodes p).Ino=p:=Mpz hT hx (by rw[←hs2];exact hpr)
      simp only[go_sem,Nat.reduceLT,Nat.reduceAdd,Nat.reduceSub,Nat.reduceEqDiff,Nat.reduceLeDiff,Int.reduceEq,Int.reduceBEq,Int.reduceBNe,Int.reduceNeg,UInt8.reduceToNat,Nat.reduceBEq,h2,l1]
      have he:(A0z t.Inodes ps p).ov=[.t ⟨⟨p⟩⟩,.i .i64 x.Kind,.o 1 (x.Data.map bpv),.o 2 (x.Attrs.map TAttr.pv),.t ⟨⟨p⟩⟩]:=by unfold A0z;rw[hfp,←hs2];rfl
      refine⟨_,by omega,j+1,hlt,rfl,?_⟩
      rw[hds,he,ACz hlt (by omega)]
  ·have h1:¬((i:Int)<(ps.length:Int)):=by omega
   obtain rfl:i=ps.length:=by omega
   rw[List.take_length]
   simp only[go_sem,Nat.reduceLT,Nat.reduceAdd,Nat.reduceSub,Nat.reduceEqDiff,Nat.reduceLeDiff,Int.reduceEq,Int.reduceBEq,Int.reduceBNe,Int.reduceNeg,UInt8.reduceToNat,Nat.reduceBEq,h1]
end Go.Proofs.YtblelojdboefjaaGreatDoor.R
namespace Go.Proofs.YtblelojdboefjaaGreatDoor.R
open Go
theorem Fiz:∀{a b r p:Path},strip a b=some r→strip a (b++p)=some (r++p)
 |[],b,r,p,h=>by simp only[strip]at h ⊢;injection h with h;rw[h]
 |x::a,[],r,p,h=>by simp[strip]at h
 |x::a,y::b,r,p,h=>by
  simp only[strip,List.cons_append]at h ⊢
  split at h
  ·rename_i e;rw[if_pos e];exact Fiz h
  ·cases h
theorem BQz {g:PV→PV} {i j:Nat} {q:Path} {es:Nat} {rows:List (List PV)}:modP g ((i,j)::q) (.o es rows)=(match rows[i]? with
  |some row=>match row[j]? with
   |some p=> .o es (rows.set i (row.set j (modP g q p)))
   |none=> .o es rows
  |none=> .o es rows):=rfl
theorem MNz:∀{q p:Path} {g h:PV→PV} {x:PV},modP g q (modP h (q++p) x)=modP (fun y=>g (modP h p y)) q x
 |[],p,g,h,x=>by rw[BWz,BWz];rfl
 |(i,j)::q,p,g,h,x=>by
  cases x with
  |o es rows=>
   simp only[List.cons_append,BQz]
   cases hr:rows[i]? with
   |none=>simp only[BQz,hr]
   |some row=>
    simp only
    cases hv:row[j]? with
    |none=>simp only[BQz,hr,hv]
    |some v=>
     obtain⟨hi,_⟩:=List.getElem?_eq_some_iff.1 hr
     obtain⟨hj,_⟩:=List.getElem?_eq_some_iff.1 hv
     simp only[BQz,List.getElem?_set_self hi,List.getElem?_set_self hj,List.set_set,MNz]
  |_=>rfl
theorem K8z:∀{q p:Path} {g h:PV→PV} {x:PV},modP h (q++p) (modP g q x)=modP (fun y=>modP h p (g y)) q x
 |[],p,g,h,x=>by rw[BWz,BWz];rfl
 |(i,j)::q,p,g,h,x=>by
  cases x with
  |o es rows=>
   simp only[List.cons_append,BQz]
   cases hr:rows[i]? with
   |none=>simp only[BQz,hr]
   |some row=>
    simp only
    cases hv:row[j]? with
    |none=>simp only[BQz,hr,hv]
    |some v=>
     obtain⟨hi,_⟩:=List.getElem?_eq_some_iff.1 hr
     obtain⟨hj,_⟩:=List.getElem?_eq_some_iff.1 hv
     simp only[BQz,List.getElem?_set_self hi,List.getElem?_set_self hj,List.set_set,K8z]
  |_=>rfl
def isO:PV→Bool
 | .o _ _=>true
 |_=>false
def Stuck (g:PV→PV):Prop:=∀y,isO y=false→isO (g y)=false
theorem Stuck.modP {g:PV→PV} (h:Stuck g):∀q,Stuck (modP g q)
 |[],y,hy=>by rw[BWz];exact h y hy
 |(i,j)::q,y,hy=>by cases y<;>first|exact hy|simp[isO]at hy
theorem Stuck.rows {es:Nat} {r:List (List PV)}:Stuck (AHz es r):=fun y hy=>by cases y<;>first|exact hy|simp[isO]at hy
theorem MDz {f:Bool} {y:PV} (h:isO y=false):owBy f y= .dead:=by cases y<;>first|rfl|simp[isO]at h
theorem HIz {s o:Nat} {q:Path} {f:Bool} {y:PV} (h:isO y=false):brBy s o q f y= .dead:=by cases y<;>first|rfl|simp[isO]at h
section
variable {s o:Nat} {f1 f2:Bool} {σ:St}
theorem Prz {qa qb qc:Path} {g1 g2 g:PV→PV} {k j:Nat} {f:Bool} {es:Nat} {rows:List (List PV)} (hg2:Stuck g2) (key:R.modP g2 qb (R.modP g1 qa (.o es rows))=R.modP g qc (.o es rows)):
  modC s o qb g2 f2 k j (modC s o qa g1 f1 k j (.ow f es rows))=modC s o qc g (f1||f2) k j (.ow f es rows):=by
 simp only[modC]
 by_cases hk:k=s∧j=o
 ·simp only[if_pos hk,←key]
  cases hz:isO (R.modP g1 qa (.o es rows))
  ·rw[MDz hz,MDz (hg2.modP _ _ hz)];rfl
  ·cases hx:R.modP g1 qa (.o es rows)with
   |o es2 rows2=>simp only[owBy,modC,if_pos hk,Bool.or_assoc]
   |_=>rw[hx]at hz;cases hz
 ·simp only[if_neg hk,modC]
theorem Psz:∀a b q,(Azz s o a b q).bind (fun r=>Azz s o r.1 r.2.1 r.2.2)=Azz s o a b q:=fun a b q=>by
 unfold Azz
 by_cases hk:a=s∧b=o
 ·simp[hk]
 ·simp[hk]
theorem MMz {q p:Path} {g1 g2 g:PV→PV} (h2:Stuck g2) (e:∀y,g2 (R.modP g1 p y)=g y):
  modS s o q g2 f2 (modS s o (q++p) g1 f1 σ)=modS s o q g (f1||f2) σ:=by
 have eg:(fun y=>g2 (R.modP g1 p y))=g:=funext e
 have key:∀(r:Path) (x:PV),R.modP g2 r (R.modP g1 (r++p) x)=R.modP g r x:=fun r x=>by rw[MNz,eg]
 unfold modS
 refine E9z (fun k j c=> ?_) Psz 0 σ
 cases c with
 |ow f es1 rows=>exact Prz h2 (key _ _)
 |br a b q' kd lo f es1 rows=>
  simp only[modC,modL]
  by_cases hk:a=s∧b=o
  ·simp only[if_pos hk]
   by_cases h0:kd=0
   ·simp only[if_pos h0]
    cases hs:strip q' q with
    |some r=>
     simp only[Fiz hs,←key]
     cases hz:isO (R.modP g1 (r++p) (.o es1 rows))
     ·rw[HIz hz,HIz (h2.modP _ _ hz)]
     ·cases hx:R.modP g1 (r++p) (.o es1 rows)with
      |o es2 rows2=>simp only[brBy,modC,modL,if_pos hk,if_true,hs,Bool.or_assoc]
      |_=>rw[hx]at hz;cases hz
    |none=>
     cases hs2:strip q' (q++p)with
     |none=>rfl
     |some r=>
      simp only
      cases hx:R.modP g1 r (.o es1 rows)with
      |o es2 rows2=>simp only[brBy,modC,modL,if_pos hk,if_true,hs]
      |_=>rfl
   ·simp only[if_neg h0]
  ·simp only[if_neg hk,modC,modL]
 |_=>rfl
theorem TYz {q p:Path} {g1 g2 g:PV→PV} (h2:Stuck g2) (e:∀y,R.modP g2 p (g1 y)=g y):
  modS s o (q++p) g2 f2 (modS s o q g1 f1 σ)=modS s o q g (f1||f2) σ:=by
 have eg:(fun y=>R.modP g2 p (g1 y))=g:=funext e
 have key:∀(r:Path) (x:PV),R.modP g2 (r++p) (R.modP g1 r x)=R.modP g r x:=fun r x=>by rw[K8z,eg]
 unfold modS
 refine E9z (fun k j c=> ?_) Psz 0 σ
 cases c with
 |ow f es1 rows=>exact Prz h2 (key _ _)
 |br a b q' kd lo f es1 rows=>
  simp only[modC,modL]
  by_cases hk:a=s∧b=o
  ·simp only[if_pos hk]
   by_cases h0:kd=0
   ·simp only[if_pos h0]
    cases hs:strip q' q with
    |some r=>
     simp only[←key]
     cases hz:isO (R.modP g1 r (.o es1 rows))
     ·rw[HIz hz,HIz (h2.modP _ _ hz)]
     ·cases hx:R.modP g1 r (.o es1 rows)with
      |o es2 rows2=>simp only[brBy,modC,modL,if_pos hk,if_true,Fiz hs,Bool.or_assoc]
      |_=>rw[hx]at hz;cases hz
    |none=>rfl
   ·simp only[if_neg h0]
  ·simp only[if_neg hk,modC,modL]
 |_=>rfl
theorem Rrz {es:Nat} {r1 r2:List (List PV)} (h:r1.length=r2.length) (y:PV):AHz es r2 (R.modP (AHz es r1) [] y)=AHz es r2 y:=by
 rw[BWz]
 cases y with
 |o es' rows=>
  simp only[AHz]
  by_cases hc:es'=es∧rows.length=r1.length
  ·obtain⟨rfl,hl⟩:=hc
   simp only[hl,h,and_self,if_true]
  ·rw[if_neg hc,if_neg fun h'=>hc ⟨h'.1,h'.2.trans h.symm⟩]
 |_=>rfl
theorem R3z {es es' i j:Nat} {r1 r2:List (List PV)} (y:PV):AHz es r2 (R.modP (AHz es' r1) [(i,j)] y)=AHz es r2 y:=by
 cases y with
 |o es0 rows=>
  rw[BQz]
  split
  ·split
   ·simp only[AHz,List.length_set]
   ·rfl
  ·rfl
 |_=>rfl
theorem Tlz {es es' i j:Nat} {r1:List PV} {r0 r:List (List PV)} {rows:List (List PV)} (h1:rows[i]? =some r1) (h2:r1[j]? =some (.o es' r0)) (h3:r0.length=r.length) (y:PV):
  R.modP (AHz es' r) [(i,j)] (AHz es rows y)=AHz es (rows.set i (r1.set j (.o es' r))) y:=by
 cases y with
 |o es0 rs=>
  simp only[AHz,List.length_set]
  by_cases hc:es0=es∧rs.length=rows.length
  ·rw[if_pos hc,if_pos hc,BQz]
   simp only[h1,h2,BWz,AHz]
   rw[if_pos ⟨trivial,h3⟩]
  ·rw[if_neg hc,if_neg hc];rfl
 |_=>rfl
theorem I4z {g:PV→PV} {es:Nat} {rows r:List (List PV)} (hg:g (.o es rows)= .o es r):∀{q:Path} {x:PV},getP q x=some (es,rows)→getP q (R.modP g q x)=some (es,r)∧isO (R.modP g q x)=true
 |[],x,h=>by
  cases x with
  |o es' rows'=>simp only[getP]at h;injection h with h;injection h with h1 h2;subst h1;subst h2;rw[BWz,hg];exact⟨rfl,rfl⟩
  |_=>simp[getP]at h
 |(i,j)::q,x,h=>by
  cases x with
  |o es' rows'=>
   simp only[getP]at h
   obtain⟨row,h1,h⟩:=Option.bind_eq_some_iff.1 h
   obtain⟨v,h2,h⟩:=Option.bind_eq_some_iff.1 h
   obtain⟨hi,_⟩:=List.getElem?_eq_some_iff.1 h1
   obtain⟨hj,_⟩:=List.getElem?_eq_some_iff.1 h2
   rw[BQz]
   simp only[h1,h2]
   refine⟨?_,rfl⟩
   simp only[getP,List.getElem?_set_self hi,List.getElem?_set_self hj,Option.bind_some]
   exact(I4z hg h).1
  |_=>simp[getP]at h
theorem Mnz {p:Path} {es:Nat} {rows:List (List PV)}:∀{q:Path} {x:PV},getP q x=some (es,rows)→getP (q++p) x=getP p (.o es rows)
 |[],x,h=>by
  cases x with
  |o es' rows'=>simp only[getP]at h;injection h with h;injection h with h1 h2;subst h1;subst h2;rfl
  |_=>simp[getP]at h
 |(i,j)::q,x,h=>by
  cases x with
  |o es' rows'=>
   simp only[getP,List.cons_append]at h ⊢
   obtain⟨row,h1,h⟩:=Option.bind_eq_some_iff.1 h
   obtain⟨v,h2,h⟩:=Option.bind_eq_some_iff.1 h
   rw[h1,Option.bind_some,h2,Option.bind_some]
   exact Mnz h
  |_=>simp[getP]at h
theorem Kmz {c:CV} {q:Path} {fl:Bool} {es:Nat} {rows:List (List PV)} (h:c.atQ q=some (fl,es,rows)):∃es0 rows0,c= .ow fl es0 rows0∧getP q (.o es0 rows0)=some (es,rows):=by
 cases c with
 |ow f es0 rows0=>
  simp only[CV.atQ]at h
  obtain⟨r,h1,h2⟩:=Option.map_eq_some_iff.1 h
  injection h2 with h3 h4
  subst h3;subst h4
  exact⟨es0,rows0,rfl,h1⟩
 |_=>simp[CV.atQ]at h
structure Wr (s o:Nat) (q:Path) (es d:Nat) (σ0 σ:St) (rows:List (List PV)):Prop where
 cell:(AAz σ s o).atQ q=some (false,es,rows)
 len:σ.length=σ0.length
 pl:plain (σ.getD d .undef)=true
 to:∀r:List (List PV),r.length=rows.length→modS s o q (AHz es r) false σ=modS s o q (AHz es r) false σ0
def Nrm (s o:Nat) (q:Path) (es:Nat) (σ0 σ:St) (rows:List (List PV)):Prop:=σ=modS s o q (AHz es rows) false σ0
theorem Wr.refl {q:Path} {es d:Nat} {rows:List (List PV)} (h:(AAz σ s o).atQ q=some (false,es,rows)) (hp:plain (σ.getD d .undef)=true):Wr s o q es d σ σ rows:=⟨h,rfl,hp,fun _ _=>rfl⟩
theorem Wr.store {q:Path} {es d:Nat} {σ0:St} {rows r:List (List PV)} (h:Wr s o q es d σ0 σ rows) (hr:r.length=rows.length):Wr s o q es d σ0 (modS s o q (AHz es r) false σ) r where
 cell:=by
  obtain⟨es0,rows0,h1,h2⟩:=Kmz h.cell
  have hg:AHz es r (.o es rows)= .o es r:=by simp only[AHz];rw[if_pos ⟨trivial,hr.symm⟩]
  obtain⟨h3,h4⟩:=I4z hg h2
  rw[AOz,h1,Iyz,if_pos ⟨rfl,rfl⟩]
  cases hx:R.modP (AHz es r) q (.o es0 rows0)with
  |o es1 rows1=>rw[hx]at h3;simp only[owBy,CV.atQ,h3,Option.map_some];rfl
  |_=>rw[hx]at h4;cases h4
 len:=by rw[Bfz,h.len]
 pl:=AJz h.pl
 to:=fun r' hr'=>by
  have:=MMz (s:=s) (o:=o) (q:=q) (p:=[]) (f1:=false) (f2:=false) (σ:=σ) (g:=AHz es r') Stuck.rows (Rrz (es:=es) (r1:=r) hr'.symm)
  rw[List.append_nil]at this
  rw[this]
  exact h.to r' (hr'.trans hr)
theorem Wr.nrm {q:Path} {es d:Nat} {σ0:St} {rows r:List (List PV)} (h:Wr s o q es d σ0 σ rows) (hr:r.length=rows.length):Nrm s o q es σ0 (modS s o q (AHz es r) false σ) r:=h.to r hr
theorem Wr.nest {q:Path} {es es' d i j:Nat} {σ0:St} {rows r0 r:List (List PV)} {row:List PV} (h:Wr s o q es d σ0 σ rows) (h1:rows[i]? =some row) (h2:row[j]? =some (.o es' r0)) (h3:r0.length=r.length):
  Wr s o q es d σ0 (modS s o (q++[(i,j)]) (AHz es' r) false σ) (rows.set i (row.set j (.o es' r)))where
 cell:=by
  obtain⟨es0,rows0,g1,g2⟩:=Kmz h.cell
  have e:R.modP (AHz es' r) (q++[(i,j)]) (.o es0 rows0)=R.modP (AHz es (rows.set i (row.set j (.o es' r)))) q (.o es0 rows0):=by
   have key:∀{q:Path} {x:PV},getP q x=some (es,rows)→R.modP (AHz es' r) (q++[(i,j)]) x=R.modP (AHz es (rows.set i (row.set j (.o es' r)))) q x:=by
    intro q
    induction q with
    |nil=>
     intro x hx
     cases x with
     |o es1 rows1=>
      simp only[getP]at hx;injection hx with hx;injection hx with hx1 hx2;subst hx1;subst hx2
      rw[List.nil_append,BWz,BQz]
      simp only[h1,h2,BWz,AHz,List.length_set]
      rw[if_pos ⟨trivial,h3⟩,if_pos ⟨trivial,trivial⟩]
     |_=>simp[getP]at hx
    |cons a q ih=>
     obtain⟨a,b⟩:=a
     intro x hx
     cases x with
     |o es1 rows1=>
      simp only[getP]at hx
      obtain⟨row1,k1,hx⟩:=Option.bind_eq_some_iff.1 hx
      obtain⟨v,k2,hx⟩:=Option.bind_eq_some_iff.1 hx
      rw[List.cons_append,BQz,BQz]
      simp only[k1,k2,ih hx]
     |_=>simp[getP]at hx
   exact key g2
  have hg:AHz es (rows.set i (row.set j (.o es' r))) (.o es rows)= .o es (rows.set i (row.set j (.o es' r))):=by simp only[AHz,List.length_set];rw[if_pos ⟨trivial,trivial⟩]
  obtain⟨k3,k4⟩:=I4z hg g2
  rw[AOz,g1,Iyz,if_pos ⟨rfl,rfl⟩,e]
  cases hx:R.modP (AHz es (rows.set i (row.set j (.o es' r)))) q (.o es0 rows0)with
  |o es1 rows1=>rw[hx]at k3;simp only[owBy,CV.atQ,k3,Option.map_some];rfl
  |_=>rw[hx]at k4;cases k4
 len:=by rw[Bfz,h.len]
 pl:=AJz h.pl
 to:=fun r' hr'=>by
  rw[MMz (g:=AHz es r') Stuck.rows R3z]
  exact h.to r' (by rw[hr',List.length_set])
theorem Nrm.nest {q:Path} {es es' i j:Nat} {σ0:St} {rows r0 r:List (List PV)} {row:List PV} (h:Nrm s o q es σ0 σ rows) (h1:rows[i]? =some row) (h2:row[j]? =some (.o es' r0)) (h3:r0.length=r.length):
  Nrm s o q es σ0 (modS s o (q++[(i,j)]) (AHz es' r) false σ) (rows.set i (row.set j (.o es' r))):=by
 unfold Nrm at h ⊢
 rw[h,TYz Stuck.rows (Tlz h1 h2 h3)]
 rfl
def tu (s o:Nat) (q:Path) (es:Nat) (rows r:List (List PV)) (σ:St):St:=match rows with
 |[]=>σ
 |_::_=>modS s o q (AHz es r) false σ
@[go_sem] theorem ADFz {q:Path} {es:Nat} {r:List (List PV)}:tu s o q es [] r σ=σ:=rfl
@[go_sem] theorem AALz {q:Path} {es:Nat} {x:List PV} {l r:List (List PV)}:tu s o q es (x::l) r σ=modS s o q (AHz es r) false σ:=rfl
attribute [go_sem] E3z
@[go_sem] theorem WWz {q p:Path} {a:Nat×Nat}:strip (q++a::p) q=none:=by
 induction q with
 |nil=>rfl
 |cons b q ih=>simp only[List.cons_append,strip,if_true,ih]
@[go_sem] theorem WYz {q p r:Path}:strip (q++p) (q++r)=strip p r:=by
 induction q with
 |nil=>rfl
 |cons b q ih=>simp only[List.cons_append,strip,if_true,ih]
@[go_sem] theorem XLz {a b:Nat×Nat}:strip [a] [b]=if a=b then some []else none:=rfl
@[go_sem] theorem TPz {q p:Path}:strip q (q++p)=some p:=by
 have:=Fiz (p:=p) (E3z q)
 simpa using this
end
theorem E0z {E:Env} {n d0:Nat} {f:FuncId} {d:Nat} {τ:St} {args:List SV} {r:St×SV} {fn:Func} {code:Code} (hn:Big+(d0+1)≤n) (hf:E.fns f=some fn) (hb:fn.body=some code) (hl:args.length≤fn.ntmps)
  (h:∀m,(∀{k},k≤d0→Big+k≤m)→ @Wq _ (AEz (E.run f (icall E m)) (pcall E m) fn.ntmps m code (Hbz fn.ntmps args τ)) ⟨fun q=>ended q.1∧ @Wq _ (EYz (E.run f (icall E m)).T fn.ntmps d fn.results.toList q.2) ⟨fun s=>s=r⟩⟩):icall E n f d τ args=some r:=by
 obtain⟨m,rfl⟩:∃m,n=m+1:=⟨n - 1,by have:=AXz;omega⟩
 exact ARz (RVz hf hb hl (h m fun hk=>by omega))
theorem A8z {T:Tys} {N d t:Nat} {τ σ:St} {p:PV} (hτ:Tail N τ σ) (hd:d<σ.length) (hp:plain (σ.getD d .undef)=true) (ht:t<N)
  (hg:τ.getD t .undef= .c .one [.sh false p]):EYz T N d [.tmp t] τ=some (σ.set d (.c .one [.sh false p]),.c .one [.sh false p]):=by
 have hT:Tail N (τ.set (N+d) .undef) (σ.set d .undef):=hτ.put (v:= .undef)
 refine Jxz (sh:=[(false,1)]) (cs:=[.sh false p]) (cs0:=[.sh false p]) hτ hd hp ?_ hT rfl
 have h1:(τ.set (N+d) .undef).getD t .undef= .c .one [.sh false p]:=by
  rw[List.getD_eq_getElem?_getD,List.getElem?_set_ne (by omega),←List.getD_eq_getElem?_getD];exact hg
 have h3:Dzz T N (τ.set (N+d) .undef) (.tmp t)=some (.c .one [.sh false p]):=by
  simp only[Dzz,opd,if_pos ht,h1];rfl
 simp only[BDz,h3,Option.bind_some,JSz,DRz,id_eq,ELz,persist,Option.map_some]
 rfl
class HeldE where
 ix:Type
 st:ix→St
 pr:ix→Prop
def FinE (σ:St) [h:HeldE]:Prop:=∃b,σ=h.st b∧h.pr b
theorem finE {σ:St} {h:HeldE} (b:h.ix) (e:σ=h.st b) (p:h.pr b): @FinE σ h:=⟨b,e,p⟩
theorem GPz {E:Env} {call:CallF} {N n:Nat} {β:Type} {b:Code} {σ:St} {K:Kont (Ex×St)} (len:Nat) (S:Nat→β→St) (I:Nat→β→Prop) (hn:Big≤n) (hl:len≤1152921504606846976)
  (h0: @Wq _ (some (tidy N (E.D (BNz b)) σ)) ⟨fun σ=> @FinE σ ⟨β,S 0,I 0⟩⟩)
  (hs:∀j y,j<len→(((j:Int)<(len:Int))=True)→IntKind.i64.wrap ((j:Int)+1)=((j+1:Nat):Int)→I j y→ @Wq _ (AEz E call N n b (S j y)) ⟨cont (fun σ=> @Wq _ (some (tidy N (E.D (BNz b)) σ)) ⟨fun σ=> @FinE σ ⟨β,S (j+1),I (j+1)⟩⟩) K.run⟩)
  (he:∀y,I len y→ @Wq _ (AEz E call N n b (S len y)) ⟨cont (fun _=>False) K.run⟩): @Wq _ (AEz E call N n (.loop b) σ) K:=by
 have hB:Big=9223372036854775808:=rfl
 refine AGz (fun k τ=>∃j y,j≤len∧k=len - j∧I j y∧τ=S j y) len (by omega) ?_ ?_
 ·rw[ERz]at h0 ⊢
  obtain⟨y,h1,h2⟩:=h0
  exact⟨0,y,Nat.zero_le _,rfl,h2,h1⟩
 ·rintro k τ ⟨j,y,hj,rfl,hI,rfl⟩
  by_cases hlt:j<len
  ·refine(hs j y hlt (by simp only[eq_iff_iff,iff_true];omega) (ACz hlt hl) hI).mono fun r hr=> ?_
   obtain⟨e,τ⟩:=r
   cases e with
   |normal=>
    refine Wq.mono (K:=⟨fun σ=> @FinE σ ⟨β,S (j+1),I (j+1)⟩⟩) hr fun τ ht=> ?_
    obtain⟨y',h1,h2⟩:=ht
    exact⟨_,by omega,j+1,y',hlt,rfl,h2,h1⟩
   |_=>exact hr
  ·obtain rfl:j=len:=by omega
   refine(he y hI).mono fun r hr=> ?_
   obtain⟨e,τ⟩:=r
   cases e with
   |normal=>exact hr.elim
   |_=>exact hr
def Rnd (s o:Nat) (q:Path) (es d:Nat) (σ0:St) (rows:Nat→List (List PV)) (j:Nat) (σ:St):Prop:=Wr s o q es d σ0 σ (rows j)∧(j=0→σ=σ0)∧(0<j→Nrm s o q es σ0 σ (rows j))
theorem Rnd.end {s o:Nat} {q:Path} {es d:Nat} {σ0 σ:St} {rows:Nat→List (List PV)} {j:Nat} {r0:List (List PV)} (h:Rnd s o q es d σ0 rows j σ) (h0:r0.length=j):σ=tu s o q es r0 (rows j) σ0:=by
 cases r0 with
 |nil=>exact h.2.1 h0.symm
 |cons a r0=>exact h.2.2 (by rw[←h0];exact Nat.succ_pos _)
def mkL {α:Type} (f:α→Nat→α×Nat):List α→Nat→List α×Nat
 |[],k=>([],k)
 |x::l,k=>((f x k).1::(mkL f l (f x k).2).1,(mkL f l (f x k).2).2)
theorem Bwz {α:Type} {f:α→Nat→α×Nat} (hf:∀x k,k≤(f x k).2):∀{l:List α} {k j:Nat},k≤(mkL f (l.take j) k).2∧(mkL f (l.take j) k).2≤(mkL f l k).2
 |[],k,j=>by simp[mkL]
 |x::l,k,0=>⟨Nat.le_refl _,by
  have:=(Bwz hf (l:=l) (k:=(f x k).2) (j:=0)).2
  simp only[List.take_zero,mkL]at this ⊢
  exact Nat.le_trans (hf x k) this⟩
 |x::l,k,j+1=>by
  have h1:=Bwz hf (l:=l) (k:=(f x k).2) (j:=j)
  simp only[List.take_succ_cons,mkL]
  exact⟨Nat.le_trans (hf x k) h1.1,h1.2⟩
theorem AQz {α:Type} {f:α→Nat→α×Nat}:∀{l:List α} {k:Nat},(mkL f l k).1.length=l.length
 |[],k=>rfl
 |x::l,k=>by simp only[mkL,List.length_cons,AQz]
theorem CFz {α:Type} {f:α→Nat→α×Nat}:∀{l:List α} {k j:Nat} {x:α},l[j]? =some x→mkL f (l.take (j+1)) k=((mkL f (l.take j) k).1++[(f x (mkL f (l.take j) k).2).1],(f x (mkL f (l.take j) k).2).2)
 |[],k,j,x,h=>by simp at h
 |y::l,k,0,x,h=>by simp at h;subst h;rfl
 |y::l,k,j+1,x,h=>by
  have h':l[j]? =some x:=by simpa using h
  have:=CFz (f:=f) (k:=(f y k).2) h'
  simp only[List.take_succ_cons,mkL,this,List.cons_append]
def mkR {α:Type} (f:α→Nat→α×Nat) (pv:α→List PV) (l:List α) (k j:Nat):List (List PV):=(mkL f (l.take j) k).1.map pv++(l.drop j).map pv
section
variable {α:Type} {f:α→Nat→α×Nat} {pv:α→List PV} {l:List α} {k j:Nat} {x:α}
theorem CEz:mkR f pv l k 0=l.map pv:=by simp[mkR,mkL]
theorem FOz:mkR f pv l k l.length=(mkL f l k).1.map pv:=by simp[mkR]
theorem BTz (h:j≤l.length):(mkR f pv l k j).length=l.length:=by simp[mkR,AQz];omega
theorem FNz (h:l[j]? =some x):(mkR f pv l k j)[j]? =some (pv x):=by
 obtain⟨hj,e⟩:=List.getElem?_eq_some_iff.1 h
 unfold mkR
 rw[List.getElem?_append_right (by simp[AQz];omega)]
 have:j - ((mkL f (l.take j) k).1.map pv).length=0:=by simp[AQz];omega
 rw[this,List.getElem?_map,List.getElem?_drop,Nat.add_zero,h]
 rfl
theorem FMz (h:l[j]? =some x) {p:List PV} (hp:p=pv (f x (mkL f (l.take j) k).2).1):(mkR f pv l k j).set j p=mkR f pv l k (j+1):=by
 obtain⟨hj,e⟩:=List.getElem?_eq_some_iff.1 h
 subst hp
 unfold mkR
 rw[List.set_append_right _ _ (by simp[AQz];omega),CFz h]
 have h0:j - ((mkL f (l.take j) k).1.map pv).length=0:=by simp[AQz];omega
 have h1:l.drop j=l[j]::l.drop (j+1):=List.drop_eq_getElem_cons hj
 rw[h0,h1,List.map_cons,List.set_cons_zero,List.map_append,List.append_assoc]
 rfl
end
end Go.Proofs.YtblelojdboefjaaGreatDoor.R
namespace Go.Proofs.YtblelojdboefjaaGreatDoor.R
open Go
def isAt (p:ByteArray) (e:TEntry):Bool:=e.Path.toList==p.toList
def Dlz (l:List TEntry) (p:ByteArray):Option TEntry:=l.find? (isAt p)
def FDz (l:List TEntry) (p:ByteArray):Int:=match l.findIdx? (isAt p)with
 |some j=>(j:Nat)
 |none=> -1
theorem Kfz {l:List TEntry} {p:ByteArray} {j:Nat} {e:TEntry} (hx:l[j]? =some e) (he:isAt p e=true) (hp:∀i y,i<j→l[i]? =some y→isAt p y=false):Dlz l p=some e∧FDz l p=(j:Nat):=by
 obtain⟨hj,hje⟩:=List.getElem?_eq_some_iff.1 hx
 constructor
 ·unfold Dlz
  rw[List.find?_eq_some_iff_getElem]
  exact⟨he,j,hj,hje,fun i hi=>by simpa using hp i _ hi (List.getElem?_eq_getElem (by omega))⟩
 ·have:l.findIdx? (isAt p)=some j:=by
   rw[List.findIdx?_eq_some_iff_getElem]
   exact⟨hj,by rw[hje];exact he,fun i hi=>by simpa using hp i _ hi (List.getElem?_eq_getElem (by omega))⟩
  unfold FDz;rw[this]
theorem Kez {l:List TEntry} {p:ByteArray} (hp:∀i y,i<l.length→l[i]? =some y→isAt p y=false):Dlz l p=none∧FDz l p= -1:=by
 have h:∀y∈l,isAt p y=false:=fun y hy=>by
  obtain⟨i,hi⟩:=List.getElem?_of_mem hy
  exact hp i y (List.getElem?_eq_some_iff.1 hi).1 hi
 constructor
 ·unfold Dlz
  rw[List.find?_eq_none]
  intro y hy;simpa using h y hy
 ·have:l.findIdx? (isAt p)=none:=by
   rw[List.findIdx?_eq_none_iff]
   intro y hy;exact h y hy
  unfold FDz;rw[this]
theorem F5z (l:List TEntry) (p:ByteArray):(Dlz l p=none∧FDz l p= -1)∨∃(j:Nat) (e:TEntry),Dlz l p=some e∧FDz l p=(j:Nat)∧l[j]? =some e:=by
 cases h:l.findIdx? (isAt p)with
 |none=>
  rw[List.findIdx?_eq_none_iff]at h
  exact .inl (Kez fun i y _ hy=>h y (List.mem_of_getElem? hy))
 |some j=>
  rw[List.findIdx?_eq_some_iff_getElem]at h
  obtain⟨hj,h1,h2⟩:=h
  have hx:l[j]? =some l[j]:=List.getElem?_eq_getElem hj
  have:=Kfz hx h1 fun i y hi hy=>by
   obtain⟨hi2,e⟩:=List.getElem?_eq_some_iff.1 hy
   rw[←e];simpa using h2 i hi
  exact .inr ⟨j,_,this.1,this.2,hx⟩
theorem OFz {α:Type} {l:List α} {f:α→Bool} {j:Nat} {x:α} (hI:∀i y,i<j→l[i]? =some y→f y=false) (hx:l[j]? =some x) (h:f x=false):∀i y,i<j+1→l[i]? =some y→f y=false:=fun i y hi hy=>by
 rcases Nat.lt_succ_iff_lt_or_eq.1 hi with h2|rfl
 ·exact hI i y h2 hy
 ·rw[hx]at hy;injection hy with hy;rw[←hy];exact h
section
variable (n:Nat)
set_option maxHeartbeats 1000000 in
theorem Joz (hn:Big+1≤n) (l:List TEntry) (hl:l.length≤Bd) (p:ByteArray):pcall env n 41 [.c .one [.sh true (.s 5 (l.map TEntry.pv))],.c .one [.sh false (.t (p))]] []=some ⟨.c .one [.sh false (.i .i64 (FDz l p))],[]⟩:=by
 refine walk (fn:=Tryz.f41) (d:=0) hn rfl rfl rfl (Nat.le_of_ble_eq_true rfl) fun k hd=> ?_
 unfold Tryz.f41
 have hb:Bd=1048576:=rfl
 simp only[go_sem,Nat.reduceLT,Nat.reduceAdd,Nat.reduceSub,Nat.reduceEqDiff,Nat.reduceLeDiff,Int.reduceEq,Int.reduceBEq,Int.reduceBNe,Int.reduceNeg,UInt8.reduceToNat,Nat.reduceBEq]
 refine B5z l (fun j=>slots 20 [(0,.c .one [.sh true (.s 5 (l.map TEntry.pv))]),(1,.c .one [.sh false (.t (p))]),(5,.c .one [.sh false (.i .i64 (j:Nat))])]) (fun j=>∀i y,i<j→l[i]? =some y→isAt p y=false) (hd (Nat.zero_le _)) (by omega) ?_ (fun j x hx _ hj h1 hw hI=> ?_) (fun hI=> ?_)
 ·simp only[go_sem,Nat.reduceLT,Nat.reduceAdd,Nat.reduceSub,Nat.reduceEqDiff,Nat.reduceLeDiff,Int.reduceEq,Int.reduceBEq,Int.reduceBNe,Int.reduceNeg,UInt8.reduceToNat,Nat.reduceBEq];exact fin rfl fun i y hi=>absurd hi (Nat.not_lt_zero _)
 ·cases hb:(x.Path.toList==p.toList)with
  |true=>
   rw[(Kfz hx hb hI).2]
   simp only[go_sem,Nat.reduceLT,Nat.reduceAdd,Nat.reduceSub,Nat.reduceEqDiff,Nat.reduceLeDiff,Int.reduceEq,Int.reduceBEq,Int.reduceBNe,Int.reduceNeg,UInt8.reduceToNat,Nat.reduceBEq,h1,hx,hb]
  |false=>
   simp only[go_sem,Nat.reduceLT,Nat.reduceAdd,Nat.reduceSub,Nat.reduceEqDiff,Nat.reduceLeDiff,Int.reduceEq,Int.reduceBEq,Int.reduceBNe,Int.reduceNeg,UInt8.reduceToNat,Nat.reduceBEq,h1,hx,hb,hw]
   exact fin rfl (OFz hI hx hb)
 ·rw[(Kez hI).2]
  simp only[go_sem,Nat.reduceLT,Nat.reduceAdd,Nat.reduceSub,Nat.reduceEqDiff,Nat.reduceLeDiff,Int.reduceEq,Int.reduceBEq,Int.reduceBNe,Int.reduceNeg,UInt8.reduceToNat,Nat.reduceBEq]
def C2z (t:TTab):List TAttr:=match AKz t.Inodes 1 with
 |some r=>r.Attrs
 |none=>[]
theorem PEz (hn:Big+7≤n) (t:TTab) (ht:t.ok):pcall env n 39 [.c .agg (t.pv.map ASz)] []=some ⟨.c .one [.ow false 2 ((C2z t).map TAttr.pv)],[]⟩:=by
 refine walk (fn:=Tryz.f39) (d:=6) hn rfl rfl rfl (Nat.le_of_ble_eq_true rfl) fun k hd=> ?_
 unfold Tryz.f39
 have c1:=Cqz k (hd (by decide)) t ht 1
 unfold atC at c1
 unfold C2z AKz
 cases h:t.Inodes.find? (fun x=>x.Ino==1)with
 |none=>
  rw[h]at c1
  simp only[go_sem,Bpz]at c1
  simp only[go_sem,Nat.reduceLT,Nat.reduceAdd,Nat.reduceSub,Nat.reduceEqDiff,Nat.reduceLeDiff,Int.reduceEq,Int.reduceBEq,Int.reduceBNe,Int.reduceNeg,UInt8.reduceToNat,Nat.reduceBEq,c1]
 |some r=>
  rw[h]at c1
  simp only[go_sem,BMz]at c1
  simp only[go_sem,Nat.reduceLT,Nat.reduceAdd,Nat.reduceSub,Nat.reduceEqDiff,Nat.reduceLeDiff,Int.reduceEq,Int.reduceBEq,Int.reduceBNe,Int.reduceNeg,UInt8.reduceToNat,Nat.reduceBEq,c1]
def atL (s o:Nat) (l:List TEntry) (p:ByteArray):List CV:=match Dlz l p with
 |some e=>[.sh false (.t e.Path),.sh false (.i .i64 e.Kind),.br s o [((FDz l p).toNat,2)] 0 0 false 1 (e.Data.map bpv),.br s o [((FDz l p).toNat,3)] 0 0 false 2 (e.Attrs.map TAttr.pv),.sh false (.t e.First),.sh false (.b true)]
 |none=>[.sh false (.t ⟨#[]⟩),.sh false (.i .i64 0),.ow false 1 [],.ow false 2 [],.sh false (.t ⟨#[]⟩),.sh false (.b false)]
@[go_sem] theorem ACQz {N d:Nat} {σ:St} (h:d<N):List.map (SV.cut d) (upSt N σ)=upSt N σ:=by
 unfold upSt
 rw[List.map_map]
 congr 1
 funext x
 cases x with
 |bp s o=>simp only[Function.comp,SV.up,SV.cut];rw[if_neg (by omega)]
 |fn g caps=>
  simp only[Function.comp,SV.up,SV.cut]
  rw[if_neg]
  simp
  intro x _;omega
 |_=>rfl
theorem Jyz {T:Tys} {N d:Nat} {σ τ:St} {rs:List ResultVar} {sh:List (Bool×Nat)} {cs cs0:List CV} (hτ:Tail N τ σ) (hd:d<σ.length) (hp:plain (σ.getD d .undef)=true)
  (hr:∀τ':St,(∀t,t<N→τ'.getD t .undef=τ.getD t .undef)→(∀s o,(AAz σ s o).isOw=true→AAz τ' (s+N) o=(AAz σ s o).up N)→∃τ2,BDz T true N (N+d) 0 rs τ'=some (τ2,sh,cs)∧(Tail N τ' (σ.set d .undef)→Tail N τ2 (σ.set d .undef))) (hc:cs=cs0.map (CV.up N)):
  EYz T N d rs τ=some (σ.set d (.c (A9z sh) cs0),.c (A9z sh) cs0):=by
 have hT:Tail N (τ.set (N+d) .undef) (σ.set d .undef):=hτ.put (v:= .undef)
 obtain⟨τ2,h1,h2⟩:=hr (τ.set (N+d) .undef) (fun t ht=>by rw[List.getD_eq_getElem?_getD,List.getElem?_set_ne (by omega),←List.getD_eq_getElem?_getD]) (fun s o h=>by rw[hT.cell,M6z hp h])
 exact Jxz hτ hd hp h1 (h2 hT) hc
theorem Tail.off {N:Nat} {σ ρ:St} {d j:Nat} (h:Tail N ρ σ) (hd:d<N):Tail N (off d j ρ) σ:=by
 refine⟨by unfold R.off;rw[Arz];exact h.1,?_⟩
 unfold R.off
 rw[Gyz,h.2,Nat.zero_add,Ucz hd]
theorem Kbz {τ:St} {s o k:Nat} {sh:Shape} {l:List CV} (h:τ.getD k .undef= .c sh l):(off s o τ).getD k .undef= .c sh (Acz (offC s o k) 0 l):=by
 unfold off
 rw[List.getD_eq_getElem?_getD,BKz]
 rw[List.getD_eq_getElem?_getD]at h
 cases hx:τ[k]? with
 |none=>rw[hx]at h;cases h
 |some x=>
  rw[hx]at h
  simp only[Option.getD_some]at h
  subst h
  simp only[Option.map_some,Option.getD_some,SV.mapC,Nat.zero_add]
theorem Obz {τ:St} {s o:Nat} {sh:Shape} {l:List CV} (h:τ.getD s .undef= .c sh l):AAz τ s o=l.getD o .dead:=by unfold AAz;rw[h]
set_option maxHeartbeats 2000000 in
theorem J4z (hn:Big+1≤n) (d s o:Nat) (σ:St) (l:List TEntry) (hl:l.length≤Bd) (p:ByteArray) (hd:d<σ.length) (hp:plain (σ.getD d .undef)=true) (hc:AAz σ s o= .ow false 5 (l.map TEntry.ov)):
  icall env n 47 d σ [.c .one [.br s o [] 0 0 false 5 (l.map TEntry.ov)],.c .one [.sh false (.t (p))]]=some (σ.set d (.c (.tup [(true,5),(false,1)]) (atL s o l p)),.c (.tup [(true,5),(false,1)]) (atL s o l p)):=by
 refine E0z (fn:=Tryz.f47) (d0:=0) hn rfl rfl (Nat.le_of_ble_eq_true rfl) fun k hd0=> ?_
 unfold Tryz.f47
 have hb:Bd=1048576:=rfl
 have hc':AAz (σ.set d .undef) s o= .ow false 5 (l.map TEntry.ov):=by rw[M6z hp (by rw[hc];rfl),hc]
 simp only[go_sem,Nat.reduceLT,Nat.reduceAdd,Nat.reduceSub,Nat.reduceEqDiff,Nat.reduceLeDiff,Int.reduceEq,Int.reduceBEq,Int.reduceBNe,Int.reduceNeg,UInt8.reduceToNat,Nat.reduceBEq,hc]
 refine B5z l (fun j=>slots 21 [(1,.c .one [.sh false (.t (p))]),(4,.c .box [.sh false (.t ⟨#[]⟩),.sh false (.i .i64 0),.ow false 1 [],.ow false 2 [],.sh false (.t ⟨#[]⟩)]),(8,.c .one [.br (s+21) o [] 0 0 false 5 (l.map TEntry.ov)]),(9,.c .one [.sh false (.i .i64 (l.length:Nat))]),(10,.c .one [.sh false (.i .i64 (j:Nat))])]++upSt 21 σ) (fun j=>∀i y,i<j→l[i]? =some y→isAt p y=false) (hd0 (Nat.zero_le _)) (by omega) ?_ (fun j x hx _ hj h1 hw hI=> ?_) (fun hI=> ?_)
 ·simp only[go_sem,Nat.reduceLT,Nat.reduceAdd,Nat.reduceSub,Nat.reduceEqDiff,Nat.reduceLeDiff,Int.reduceEq,Int.reduceBEq,Int.reduceBNe,Int.reduceNeg,UInt8.reduceToNat,Nat.reduceBEq,hc];exact fin rfl fun i y hi=>absurd hi (Nat.not_lt_zero _)
 ·cases hb:(x.Path.toList==p.toList)with
  |true=>
   have hf:=Kfz hx hb hI
   simp only[go_sem,Nat.reduceLT,Nat.reduceAdd,Nat.reduceSub,Nat.reduceEqDiff,Nat.reduceLeDiff,Int.reduceEq,Int.reduceBEq,Int.reduceBNe,Int.reduceNeg,UInt8.reduceToNat,Nat.reduceBEq,h1,hx,hb,hc]
   refine Auz (Jyz (σ:=σ) (sh:=[(true,5),(false,1)]) (cs0:=atL s o l p) ⟨by simp,rfl⟩ hd hp (fun τ' g hcl=> ?_) rfl) rfl
   have hk:=hcl s o (by rw[hc];rfl)
   rw[hc]at hk
   have g4:=g 4 (by decide)
   have g5:=g 5 (by decide)
   simp only[go_sem]at g4 g5 hk
   refine⟨τ',?_,id⟩
   unfold atL
   rw[hf.1,hf.2]
   simp only[go_sem,Nat.reduceLT,Nat.reduceAdd,Nat.reduceSub,Nat.reduceEqDiff,Nat.reduceLeDiff,Int.reduceEq,Int.reduceBEq,Int.reduceBNe,Int.reduceNeg,UInt8.reduceToNat,Nat.reduceBEq,g4,g5,hk]
  |false=>
   simp only[go_sem,Nat.reduceLT,Nat.reduceAdd,Nat.reduceSub,Nat.reduceEqDiff,Nat.reduceLeDiff,Int.reduceEq,Int.reduceBEq,Int.reduceBNe,Int.reduceNeg,UInt8.reduceToNat,Nat.reduceBEq,h1,hx,hb,hw,hc]
   exact fin rfl (OFz hI hx hb)
 ·have hf:=Kez hI
  simp only[go_sem,Nat.reduceLT,Nat.reduceAdd,Nat.reduceSub,Nat.reduceEqDiff,Nat.reduceLeDiff,Int.reduceEq,Int.reduceBEq,Int.reduceBNe,Int.reduceNeg,UInt8.reduceToNat,Nat.reduceBEq,hc]
  refine Auz (Jyz (σ:=σ) (sh:=[(true,5),(false,1)]) (cs0:=atL s o l p) ⟨by simp,rfl⟩ hd hp (fun τ' g hcl=> ?_) rfl) rfl
  have g4:=g 4 (by decide)
  have g5:=g 5 (by decide)
  simp only[go_sem]at g4 g5
  have k2:AAz τ' 4 2= .ow false 1 []:=Obz g4
  have g4':=Kbz (s:=4) (o:=2) g4
  have k3:AAz (off 4 2 τ') 4 3= .ow false 2 []:=Obz g4'
  have g5':(off 4 3 (off 4 2 τ')).getD 5 .undef= .c .one [.sh false (.b false)]:=Kbz (Kbz g5)
  refine⟨off 4 3 (off 4 2 τ'),?_,fun h=>(h.off (by decide)).off (by decide)⟩
  unfold off at k3 g5' ⊢
  unfold atL
  rw[hf.1]
  simp only[go_sem,Nat.reduceLT,Nat.reduceAdd,Nat.reduceSub,Nat.reduceEqDiff,Nat.reduceLeDiff,Int.reduceEq,Int.reduceBEq,Int.reduceBNe,Int.reduceNeg,UInt8.reduceToNat,Nat.reduceBEq,g4,k2,k3,g5']
end
end Go.Proofs.YtblelojdboefjaaGreatDoor.R
namespace Go.Proofs.YtblelojdboefjaaGreatDoor.R
open Go
def F2z (Y:List TEntry) (e:TEntry):Bool:=match Dlz Y e.Path with
 |none=>true
 |some o=> !eqE e o&& !((e.Kind==2)&&(o.Kind==2))
def DBz (X:List TEntry) (e:TEntry):Bool:=match Dlz X e.Path with
 |none=>true
 |some o=> !eqE e o
def B7z (Y l:List TEntry):List ByteArray:=(l.filter (F2z Y)).map (·.Path)
def Buz (X l:List TEntry):List TEntry:=l.filter (DBz X)
noncomputable def FEz (a b:TTab):TDelta:=match Aaz a&&Aaz b with
 |true=>⟨C2z b,B7z (Anz b) (Anz a),Buz (Anz a) (Anz b)⟩
 |false=>⟨[],[],[]⟩
theorem Eaz {t:TTab} (ht:t.ok) {e:TEntry} (he:e∈Anz t):e.ok∧(e.Kind=1∨e.Kind=2):=by
 obtain⟨p,hp,rfl⟩:=List.mem_map.1 he
 exact⟨SYz ht hp,QBz hp⟩
theorem Ebz (t:TTab):(Anz t).length≤9000:=by unfold Anz;rw[List.length_map];exact Grz t
theorem L1z {t:TTab} (ht:t.ok):(∀y∈C2z t,TAttr.ok y)∧(C2z t).length≤Bd:=by
 unfold C2z
 cases h:AKz t.Inodes 1 with
 |none=>exact⟨(fun _ h=>nomatch h),Nat.zero_le _⟩
 |some r=>exact(ht.Inodes.1 r (Ayz h).1).Attrs
theorem LNz {Y l:List TEntry} {j:Nat} {e:TEntry} (h:l[j]? =some e):B7z Y (l.take (j+1))=B7z Y (l.take j)++(if F2z Y e=true then[e.Path]else[]):=by
 unfold B7z
 rw[List.take_add_one,h,List.filter_append,List.map_append]
 cases hg:F2z Y e<;>simp[hg]
theorem Juz {X l:List TEntry} {j:Nat} {e:TEntry} (h:l[j]? =some e):Buz X (l.take (j+1))=Buz X (l.take j)++(if DBz X e=true then[e]else[]):=by
 unfold Buz
 rw[List.take_add_one,h,List.filter_append]
 cases hg:DBz X e<;>simp[hg]
theorem I3z {Y l:List TEntry} {j:Nat}:(B7z Y (l.take j)).length≤l.length:=by
 unfold B7z
 rw[List.length_map]
 exact Nat.le_trans (List.length_filter_le _ _) (by rw[List.length_take];omega)
theorem Hxz {X l:List TEntry} {j:Nat}:(Buz X (l.take j)).length≤l.length:=by
 unfold Buz
 exact Nat.le_trans (List.length_filter_le _ _) (by rw[List.length_take];omega)
def S5z (d:TDelta):List CV:=[.ow false 2 (d.Attrs.map TAttr.pv),.ow false 1 (d.Gone.map spv),.ow false 5 (d.Fresh.map TEntry.pv)]
theorem OLz {e:TEntry} (h:e.Kind=1∨e.Kind=2):(e.Kind==1)= !(e.Kind==2):=by
 rcases h with h|h<;>rw[h]<;>decide
section
variable (n:Nat)
set_option maxHeartbeats 8000000 in
theorem Nuz (hn:Big+50≤n) (a b:TTab) (ha:a.ok) (hb:b.ok):pcall env n 9 [.c .agg (a.pv.map ASz),.c .agg (b.pv.map ASz)] []=some ⟨.c .agg (S5z (FEz a b)),[]⟩:=by
 refine walk (fn:=Tryz.f9) (d:=49) hn rfl rfl rfl (Nat.le_of_ble_eq_true rfl) fun k hd=> ?_
 unfold Tryz.f9
 have hbd:Bd=1048576:=rfl
 have hlim:LIM=70368744177664:=rfl
 have c1:=GEz k (hd (by decide)) a ha
 have c2:=GEz k (hd (by decide)) b hb
 have c3:=PEz k (hd (by decide)) b hb
 have c4:=Ikz k (hd (by decide)) a ha
 have c5:=Ikz k (hd (by decide)) b hb
 have hX:=fun e he=>Eaz (e:=e) ha he
 have hY:=fun e he=>Eaz (e:=e) hb he
 have lX:=Ebz a
 have lY:=Ebz b
 have lR:=L1z hb
 have e1:(C2z b).length*32≤LIM:=by have:=lR.2;omega
 have hD:FEz a b=match Aaz a&&Aaz b with
  |true=>⟨C2z b,B7z (Anz b) (Anz a),Buz (Anz a) (Anz b)⟩
  |false=>⟨[],[],[]⟩:=rfl
 generalize FEz a b=D at hD ⊢
 cases hta:Aaz a
 case false=>
  rw[hta]at c1 hD
  have hD:D=⟨[],[],[]⟩:=hD
  subst hD
  simp only[go_sem]at c1
  simp only[go_sem,Nat.reduceLT,Nat.reduceAdd,Nat.reduceSub,Nat.reduceEqDiff,Nat.reduceLeDiff,Int.reduceEq,Int.reduceBEq,Int.reduceBNe,Int.reduceNeg,UInt8.reduceToNat,Nat.reduceBEq,c1]
  rfl
 cases htb:Aaz b
 case false=>
  rw[hta]at c1
  rw[htb]at c2
  rw[hta,htb]at hD
  have hD:D=⟨[],[],[]⟩:=hD
  subst hD
  simp only[go_sem]at c1 c2
  simp only[go_sem,Nat.reduceLT,Nat.reduceAdd,Nat.reduceSub,Nat.reduceEqDiff,Nat.reduceLeDiff,Int.reduceEq,Int.reduceBEq,Int.reduceBNe,Int.reduceNeg,UInt8.reduceToNat,Nat.reduceBEq,c1,c2]
  rfl
 rw[hta]at c1
 rw[htb]at c2
 rw[hta,htb]at hD
 have hD:D=⟨C2z b,B7z (Anz b) (Anz a),Buz (Anz a) (Anz b)⟩:=hD
 subst hD
 generalize Anz a=X at c4 hX lX ⊢
 generalize Anz b=Y at c5 hY lY ⊢
 generalize C2z b=Rt at c3 lR e1 ⊢
 have hfY:=fun p=>Joz k (hd (by decide)) Y (by omega) p
 have hfX:=fun p=>Joz k (hd (by decide)) X (by omega) p
 simp only[go_sem]at c1 c2 c3 c4 c5
 simp only[go_sem,Nat.reduceLT,Nat.reduceAdd,Nat.reduceSub,Nat.reduceEqDiff,Nat.reduceLeDiff,Int.reduceEq,Int.reduceBEq,Int.reduceBNe,Int.reduceNeg,UInt8.reduceToNat,Nat.reduceBEq,c1,c2,c3,c4,c5,e1,Nat.zero_mul,Nat.zero_le,Nat.zero_add]
 refine B5z X (fun j=>slots 120 [(2,.c .box [.sh true (.s 6 (a.Inodes.map TInode.pv)),.sh false (.i .i64 a.Next)]),(3,.c .box [.sh true (.s 6 (b.Inodes.map TInode.pv)),.sh false (.i .i64 b.Next)]),(4,.c .box [.ow false 2 [],.ow false 1 [],.ow false 5 []]),(5,.c .box [.ow false 2 (Rt.map TAttr.pv),.ow false 1 ((B7z Y (X.take j)).map spv),.ow false 5 []]),(6,.c .one [.ow false 5 (X.map TEntry.pv)]),(7,.c .one [.ow false 5 (Y.map TEntry.pv)]),(8,.c .one [.sh false (.i .i64 (j:Nat))])]) (fun _=>True) (hd (Nat.zero_le _)) (by omega) ?_ (fun j e hx he hj h1 hw _=> ?_) (fun _=> ?_)
 ·simp only[go_sem,Nat.reduceLT,Nat.reduceAdd,Nat.reduceSub,Nat.reduceEqDiff,Nat.reduceLeDiff,Int.reduceEq,Int.reduceBEq,Int.reduceBNe,Int.reduceNeg,UInt8.reduceToNat,Nat.reduceBEq];exact fin' rfl
 ·rw[LNz hx]
  have hl:=I3z (Y:=Y) (l:=X) (j:=j)
  have g1:((B7z Y (X.take j)).length+1)*16≤LIM:=by omega
  generalize B7z Y (X.take j)=L at hl g1 ⊢
  have c6:=hfY e.Path
  have hge:F2z Y e=match Dlz Y e.Path with
   |none=>true
   |some o=> !eqE e o&& !((e.Kind==2)&&(o.Kind==2)):=rfl
  generalize F2z Y e=G at hge ⊢
  rcases F5z Y e.Path with⟨f1,f2⟩|⟨j2,o,f1,f2,hy⟩
  ·rw[f2]at c6
   rw[f1]at hge
   have hge:G=true:=hge
   subst hge
   rw[if_pos rfl]
   simp only[go_sem,Nat.reduceLT,Nat.reduceAdd,Nat.reduceSub,Nat.reduceEqDiff,Nat.reduceLeDiff,Int.reduceEq,Int.reduceBEq,Int.reduceBNe,Int.reduceNeg,UInt8.reduceToNat,Nat.reduceBEq,h1,hx,c6]
   refine chk (by kernel_rfl) ?_
   refine chk (by kernel_rfl) ?_
   simp only[go_sem,Nat.reduceLT,Nat.reduceAdd,Nat.reduceSub,Nat.reduceEqDiff,Nat.reduceLeDiff,Int.reduceEq,Int.reduceBEq,Int.reduceBNe,Int.reduceNeg,UInt8.reduceToNat,Nat.reduceBEq,g1,hw]
   exact fin' (by first|rfl|(simp only[List.map_append];rfl))
  ·rw[f2]at c6
   rw[f1]at hge
   have hge:G=(!eqE e o&& !((e.Kind==2)&&(o.Kind==2))):=hge
   have c7:=Jmz k (hd (by decide)) e o (hX e he).1
   have hj2:((j2:Int)<0)=False:=by simp
   have k1:=OLz (hX e he).2
   have k2:=OLz (hY o (List.mem_of_getElem? hy)).2
   try simp only[go_sem]at c7
   have hcs:(eqE e o=true∧G=false)∨(eqE e o=false∧(e.Kind==1)=true∧G=true)∨(eqE e o=false∧(e.Kind==1)=false∧(o.Kind==1)=true∧G=true)∨(eqE e o=false∧(e.Kind==1)=false∧(o.Kind==1)=false∧G=false):=by
    rw[k1,k2,hge]
    cases eqE e o<;>cases (e.Kind==2)<;>cases (o.Kind==2)<;>simp
   rcases hcs with⟨q1,rfl⟩|⟨q1,q2,rfl⟩|⟨q1,q2,q3,rfl⟩|⟨q1,q2,q3,rfl⟩
   all_goals
    simp only[go_sem,Nat.reduceLT,Nat.reduceAdd,Nat.reduceSub,Nat.reduceEqDiff,Nat.reduceLeDiff,Int.reduceEq,Int.reduceBEq,Int.reduceBNe,Int.reduceNeg,UInt8.reduceToNat,Nat.reduceBEq,h1,hx,c6,hj2,hy,c7,q1]
    try simp only[go_sem,Nat.reduceLT,Nat.reduceAdd,Nat.reduceSub,Nat.reduceEqDiff,Nat.reduceLeDiff,Int.reduceEq,Int.reduceBEq,Int.reduceBNe,Int.reduceNeg,UInt8.reduceToNat,Nat.reduceBEq,q2,hx,hy]
    try simp only[go_sem,Nat.reduceLT,Nat.reduceAdd,Nat.reduceSub,Nat.reduceEqDiff,Nat.reduceLeDiff,Int.reduceEq,Int.reduceBEq,Int.reduceBNe,Int.reduceNeg,UInt8.reduceToNat,Nat.reduceBEq,q3,hx,hy]
    try refine chk (by kernel_rfl) ?_
    try simp only[go_sem,Nat.reduceLT,Nat.reduceAdd,Nat.reduceSub,Nat.reduceEqDiff,Nat.reduceLeDiff,Int.reduceEq,Int.reduceBEq,Int.reduceBNe,Int.reduceNeg,UInt8.reduceToNat,Nat.reduceBEq,h1,hx,c6,hj2,hy,c7,q1]
    try simp only[go_sem,Nat.reduceLT,Nat.reduceAdd,Nat.reduceSub,Nat.reduceEqDiff,Nat.reduceLeDiff,Int.reduceEq,Int.reduceBEq,Int.reduceBNe,Int.reduceNeg,UInt8.reduceToNat,Nat.reduceBEq,q2,hx,hy]
    try simp only[go_sem,Nat.reduceLT,Nat.reduceAdd,Nat.reduceSub,Nat.reduceEqDiff,Nat.reduceLeDiff,Int.reduceEq,Int.reduceBEq,Int.reduceBNe,Int.reduceNeg,UInt8.reduceToNat,Nat.reduceBEq,q3,hx,hy]
    try refine chk (by kernel_rfl) ?_
    try simp only[go_sem,Nat.reduceLT,Nat.reduceAdd,Nat.reduceSub,Nat.reduceEqDiff,Nat.reduceLeDiff,Int.reduceEq,Int.reduceBEq,Int.reduceBNe,Int.reduceNeg,UInt8.reduceToNat,Nat.reduceBEq,g1,hw]
    try exact fin' (by first|rfl|(simp only[List.map_append];rfl)|(rw[if_neg (by decide),List.append_nil];rfl))
 ·rw[List.take_length]
  simp only[go_sem,Nat.reduceLT,Nat.reduceAdd,Nat.reduceSub,Nat.reduceEqDiff,Nat.reduceLeDiff,Int.reduceEq,Int.reduceBEq,Int.reduceBNe,Int.reduceNeg,UInt8.reduceToNat,Nat.reduceBEq]
  generalize B7z Y X=Gn
  refine B5z Y (fun j=>slots 120 [(2,.c .box [.sh true (.s 6 (a.Inodes.map TInode.pv)),.sh false (.i .i64 a.Next)]),(3,.c .box [.sh true (.s 6 (b.Inodes.map TInode.pv)),.sh false (.i .i64 b.Next)]),(4,.c .box [.ow false 2 [],.ow false 1 [],.ow false 5 []]),(5,.c .box [.ow false 2 (Rt.map TAttr.pv),.ow false 1 (Gn.map spv),.ow false 5 ((Buz X (Y.take j)).map TEntry.pv)]),(6,.c .one [.ow false 5 (X.map TEntry.pv)]),(7,.c .one [.ow false 5 (Y.map TEntry.pv)]),(10,.c .one [.sh false (.i .i64 (j:Nat))])]) (fun _=>True) (hd (Nat.zero_le _)) (by omega) ?_ (fun j e hx he hj h1 hw _=> ?_) (fun _=> ?_)
  ·simp only[go_sem,Nat.reduceLT,Nat.reduceAdd,Nat.reduceSub,Nat.reduceEqDiff,Nat.reduceLeDiff,Int.reduceEq,Int.reduceBEq,Int.reduceBNe,Int.reduceNeg,UInt8.reduceToNat,Nat.reduceBEq];exact fin' rfl
  ·rw[Juz hx]
   have hl:=Hxz (X:=X) (l:=Y) (j:=j)
   have g1:((Buz X (Y.take j)).length+1)*88≤LIM:=by omega
   generalize Buz X (Y.take j)=L at hl g1 ⊢
   have c6:=hfX e.Path
   have hge:DBz X e=match Dlz X e.Path with
    |none=>true
    |some o=> !eqE e o:=rfl
   generalize DBz X e=G at hge ⊢
   rcases F5z X e.Path with⟨f1,f2⟩|⟨j2,o,f1,f2,hy⟩
   ·rw[f2]at c6
    rw[f1]at hge
    have hge:G=true:=hge
    subst hge
    rw[if_pos rfl]
    simp only[go_sem,Nat.reduceLT,Nat.reduceAdd,Nat.reduceSub,Nat.reduceEqDiff,Nat.reduceLeDiff,Int.reduceEq,Int.reduceBEq,Int.reduceBNe,Int.reduceNeg,UInt8.reduceToNat,Nat.reduceBEq,h1,hx,c6]
    refine chk (by kernel_rfl) ?_
    refine chk (by kernel_rfl) ?_
    simp only[go_sem,Nat.reduceLT,Nat.reduceAdd,Nat.reduceSub,Nat.reduceEqDiff,Nat.reduceLeDiff,Int.reduceEq,Int.reduceBEq,Int.reduceBNe,Int.reduceNeg,UInt8.reduceToNat,Nat.reduceBEq,g1,hw]
    exact fin' (by first|rfl|(simp only[List.map_append];rfl))
   ·rw[f2]at c6
    rw[f1]at hge
    have hge:G= !eqE e o:=hge
    have c7:=Jmz k (hd (by decide)) o e (hX o (List.mem_of_getElem? hy)).1
    rw[SWz]at c7
    have hj2:((j2:Int)<0)=False:=by simp
    try simp only[go_sem]at c7
    have hcs:(eqE e o=true∧G=false)∨(eqE e o=false∧G=true):=by rw[hge];cases eqE e o<;>simp
    rcases hcs with⟨q1,rfl⟩|⟨q1,rfl⟩
    all_goals
     simp only[go_sem,Nat.reduceLT,Nat.reduceAdd,Nat.reduceSub,Nat.reduceEqDiff,Nat.reduceLeDiff,Int.reduceEq,Int.reduceBEq,Int.reduceBNe,Int.reduceNeg,UInt8.reduceToNat,Nat.reduceBEq,h1,hx,c6,hj2,hy,c7,q1]
     try refine chk (by kernel_rfl) ?_
     try simp only[go_sem,Nat.reduceLT,Nat.reduceAdd,Nat.reduceSub,Nat.reduceEqDiff,Nat.reduceLeDiff,Int.reduceEq,Int.reduceBEq,Int.reduceBNe,Int.reduceNeg,UInt8.reduceToNat,Nat.reduceBEq,h1,hx,c6,hj2,hy,c7,q1]
     try refine chk (by kernel_rfl) ?_
     try simp only[go_sem,Nat.reduceLT,Nat.reduceAdd,Nat.reduceSub,Nat.reduceEqDiff,Nat.reduceLeDiff,Int.reduceEq,Int.reduceBEq,Int.reduceBNe,Int.reduceNeg,UInt8.reduceToNat,Nat.reduceBEq,g1,hw]
     try exact fin' (by first|rfl|(simp only[List.map_append];rfl)|(rw[if_neg (by decide),List.append_nil];rfl))
  ·rw[List.take_length]
   simp only[go_sem,Nat.reduceLT,Nat.reduceAdd,Nat.reduceSub,Nat.reduceEqDiff,Nat.reduceLeDiff,Int.reduceEq,Int.reduceBEq,Int.reduceBNe,Int.reduceNeg,UInt8.reduceToNat,Nat.reduceBEq]
   rfl
end
end Go.Proofs.YtblelojdboefjaaGreatDoor.R
namespace Go.Proofs.YtblelojdboefjaaGreatDoor.R
open Go
def TEntry.hv (x:TEntry):List PV:=[.t x.Path,.i .i64 x.Kind,.un,.un,.t x.First]
def holed (X Y:List TEntry) (j:Nat):List (List PV):=(Y.take j).map (fun e=>if DBz X e=true then e.hv else e.ov)++(Y.drop j).map TEntry.ov
theorem PMz {X Y:List TEntry}:holed X Y 0=Y.map TEntry.ov:=by simp[holed]
theorem Qoz {X Y:List TEntry} {j:Nat}:(holed X Y j).length=Y.length:=by
 simp only[holed,List.length_append,List.length_map,List.length_take,List.length_drop];omega
theorem Qpz {X Y:List TEntry} {j:Nat} {e:TEntry} (h:Y[j]? =some e):(holed X Y j)[j]? =some e.ov:=by
 have hj:=(List.getElem?_eq_some_iff.1 h).1
 unfold holed
 rw[List.getElem?_append_right (by simp only[List.length_map,List.length_take];omega)]
 simp only[List.length_map,List.length_take,List.getElem?_map,List.getElem?_drop]
 rw[show j+(j - min j Y.length)=j by omega,h];rfl
theorem PNz {X Y:List TEntry} {j:Nat} {e:TEntry} (h:Y[j]? =some e):holed X Y (j+1)=if DBz X e=true then(holed X Y j).set j e.hv else holed X Y j:=by
 obtain⟨hj,he⟩:=List.getElem?_eq_some_iff.1 h
 have hd:Y.drop j=e::Y.drop (j+1):=by rw[List.drop_eq_getElem_cons hj,he]
 have hl:((Y.take j).map (fun e=>if DBz X e=true then e.hv else e.ov)).length=j:=by simp only[List.length_map,List.length_take];omega
 unfold holed
 rw[List.take_add_one,h,hd]
 by_cases hf:DBz X e=true
 ·rw[if_pos hf,List.set_append_right _ _ (by omega),hl]
  simp[hf]
 ·rw[if_neg hf]
  simp[hf]
def delO (d:TDelta):List CV:=[.ow false 2 (d.Attrs.map TAttr.pv),.ow false 1 (d.Gone.map spv),.ow false 5 (d.Fresh.map TEntry.ov)]
section
variable (n:Nat)
set_option maxHeartbeats 8000000 in
theorem Nvz (hn:Big+50≤n) (a b:TTab) (ha:a.ok) (hb:b.ok):pcall env n 11 [.c .agg (a.pv.map ASz),.c .agg (b.pv.map ASz)] []=some ⟨.c .agg (delO (FEz a b)),[]⟩:=by
 refine walk (fn:=Tryz.f11) (d:=49) hn rfl rfl rfl (Nat.le_of_ble_eq_true rfl) fun k hd=> ?_
 unfold Tryz.f11
 have hbd:Bd=1048576:=rfl
 have hlim:LIM=70368744177664:=rfl
 have c1:=GFz k (hd (by decide)) a ha
 have c2:=GFz k (hd (by decide)) b hb
 have c3:=Byz k (hd (by decide)) b hb 1
 have c4:=Ilz k (hd (by decide)) a ha
 have c5:=Ilz k (hd (by decide)) b hb
 have hX:=fun e he=>Eaz (e:=e) ha he
 have hY:=fun e he=>Eaz (e:=e) hb he
 have lX:=Ebz a
 have lY:=Ebz b
 have hD:FEz a b=match Aaz a&&Aaz b with
  |true=>⟨C2z b,B7z (Anz b) (Anz a),Buz (Anz a) (Anz b)⟩
  |false=>⟨[],[],[]⟩:=rfl
 generalize FEz a b=D at hD ⊢
 cases hta:Aaz a
 case false=>
  rw[hta]at c1 hD
  have hD:D=⟨[],[],[]⟩:=hD
  subst hD
  simp only[go_sem]at c1
  simp only[go_sem,Nat.reduceLT,Nat.reduceAdd,Nat.reduceSub,Nat.reduceEqDiff,Nat.reduceLeDiff,Int.reduceEq,Int.reduceBEq,Int.reduceBNe,Int.reduceNeg,UInt8.reduceToNat,Nat.reduceBEq,c1]
  rfl
 cases htb:Aaz b
 case false=>
  rw[hta]at c1
  rw[htb]at c2
  rw[hta,htb]at hD
  have hD:D=⟨[],[],[]⟩:=hD
  subst hD
  simp only[go_sem]at c1 c2
  simp only[go_sem,Nat.reduceLT,Nat.reduceAdd,Nat.reduceSub,Nat.reduceEqDiff,Nat.reduceLeDiff,Int.reduceEq,Int.reduceBEq,Int.reduceBNe,Int.reduceNeg,UInt8.reduceToNat,Nat.reduceBEq,c1,c2]
  rfl
 rw[hta]at c1
 rw[htb]at c2
 rw[hta,htb]at hD
 have hD:D=⟨C2z b,B7z (Anz b) (Anz a),Buz (Anz a) (Anz b)⟩:=hD
 subst hD
 obtain⟨r,_,hr⟩:=Foz htb
 have hRt:C2z b=r.Attrs:=by unfold C2z;rw[hr]
 unfold atC at c3
 unfold AKz at hr
 rw[hr]at c3
 rw[hRt]
 generalize Anz a=X at c4 hX lX ⊢
 generalize Anz b=Y at c5 hY lY ⊢
 simp only[go_sem,BMz]at c1 c2 c3 c4 c5
 simp only[go_sem,Nat.reduceLT,Nat.reduceAdd,Nat.reduceSub,Nat.reduceEqDiff,Nat.reduceLeDiff,Int.reduceEq,Int.reduceBEq,Int.reduceBNe,Int.reduceNeg,UInt8.reduceToNat,Nat.reduceBEq,c1,c2,c3,c4,c5,Nat.zero_mul,Nat.zero_le,Nat.zero_add]
 refine chk (by kernel_rfl) ?_
 refine B5z X (fun j=>slots 109 [(4,.c .box [.ow false 2 [],.ow false 1 [],.ow false 5 []]),(5,.c .box [.ow false 2 (r.Attrs.map TAttr.pv),.ow false 1 ((B7z Y (X.take j)).map spv),.ow false 5 (([]:List (List PV)))]),(8,.c .one [.ow false 5 (X.map TEntry.ov)]),(9,.c .one [.ow false 5 (Y.map TEntry.ov)]),(40,.c .one [.br 8 0 [] 0 0 false 5 (X.map TEntry.ov)]),(41,.c .one [.sh false (.i .i64 (X.length:Nat))]),(42,.c .one [.sh false (.i .i64 (j:Nat))])]) (fun _=>True) (hd (Nat.zero_le _)) (by omega) ?_ (fun j e hx he hj h1 hw _=> ?_) (fun _=> ?_)
 ·simp only[go_sem,Nat.reduceLT,Nat.reduceAdd,Nat.reduceSub,Nat.reduceEqDiff,Nat.reduceLeDiff,Int.reduceEq,Int.reduceBEq,Int.reduceBNe,Int.reduceNeg,UInt8.reduceToNat,Nat.reduceBEq];exact fin' rfl
 ·rw[LNz hx]
  have hl:=I3z (Y:=Y) (l:=X) (j:=j)
  have g1:((B7z Y (X.take j)).length+1)*16≤LIM:=by omega
  generalize B7z Y (X.take j)=L at hl g1 ⊢
  have hge:F2z Y e=match Dlz Y e.Path with
   |none=>true
   |some o=> !eqE e o&& !((e.Kind==2)&&(o.Kind==2)):=rfl
  generalize F2z Y e=G at hge ⊢
  simp only[go_sem,Nat.reduceLT,Nat.reduceAdd,Nat.reduceSub,Nat.reduceEqDiff,Nat.reduceLeDiff,Int.reduceEq,Int.reduceBEq,Int.reduceBNe,Int.reduceNeg,UInt8.reduceToNat,Nat.reduceBEq,h1,hx]
  refine Auz (J4z k (hd (by decide)) _ _ _ _ Y (by omega) e.Path (by simp only[List.length_cons];omega) rfl rfl) ?_
  unfold atL
  rcases F5z Y e.Path with⟨f1,f2⟩|⟨j2,o,f1,f2,hy⟩
  ·rw[f1]at hge ⊢
   have hge:G=true:=hge
   subst hge
   rw[if_pos rfl]
   simp only[go_sem,Nat.reduceLT,Nat.reduceAdd,Nat.reduceSub,Nat.reduceEqDiff,Nat.reduceLeDiff,Int.reduceEq,Int.reduceBEq,Int.reduceBNe,Int.reduceNeg,UInt8.reduceToNat,Nat.reduceBEq,g1,hw]
   exact fin' (by first|rfl|(simp only[List.map_append];rfl))
  ·rw[f1]at hge ⊢
   rw[f2]
   have hge:G=(!eqE e o&& !((e.Kind==2)&&(o.Kind==2))):=hge
   have c7:=Hgz k (hd (by decide)) e o (hX e he).1
   try simp only[go_sem]at c7
   have hcs:(eqE e o=true∧G=false)∨(eqE e o=false∧(e.Kind==2)=false∧G=true)∨(eqE e o=false∧(e.Kind==2)=true∧(o.Kind==2)=false∧G=true)∨(eqE e o=false∧(e.Kind==2)=true∧(o.Kind==2)=true∧G=false):=by
    rw[hge]
    cases eqE e o<;>cases (e.Kind==2)<;>cases (o.Kind==2)<;>simp
   rcases hcs with⟨q1,rfl⟩|⟨q1,q2,rfl⟩|⟨q1,q2,q3,rfl⟩|⟨q1,q2,q3,rfl⟩
   all_goals
    simp only[go_sem,Nat.reduceLT,Nat.reduceAdd,Nat.reduceSub,Nat.reduceEqDiff,Nat.reduceLeDiff,Int.reduceEq,Int.reduceBEq,Int.reduceBNe,Int.reduceNeg,UInt8.reduceToNat,Nat.reduceBEq,c7,q1]
    try simp only[go_sem,Nat.reduceLT,Nat.reduceAdd,Nat.reduceSub,Nat.reduceEqDiff,Nat.reduceLeDiff,Int.reduceEq,Int.reduceBEq,Int.reduceBNe,Int.reduceNeg,UInt8.reduceToNat,Nat.reduceBEq,q2]
    try simp only[go_sem,Nat.reduceLT,Nat.reduceAdd,Nat.reduceSub,Nat.reduceEqDiff,Nat.reduceLeDiff,Int.reduceEq,Int.reduceBEq,Int.reduceBNe,Int.reduceNeg,UInt8.reduceToNat,Nat.reduceBEq,q3]
    try simp only[go_sem,Nat.reduceLT,Nat.reduceAdd,Nat.reduceSub,Nat.reduceEqDiff,Nat.reduceLeDiff,Int.reduceEq,Int.reduceBEq,Int.reduceBNe,Int.reduceNeg,UInt8.reduceToNat,Nat.reduceBEq,g1,hw]
    try exact fin' (by first|rfl|(simp only[List.map_append];rfl)|(rw[if_neg (by decide),List.append_nil];rfl))
 ·rw[List.take_length]
  simp only[go_sem,Nat.reduceLT,Nat.reduceAdd,Nat.reduceSub,Nat.reduceEqDiff,Nat.reduceLeDiff,Int.reduceEq,Int.reduceBEq,Int.reduceBNe,Int.reduceNeg,UInt8.reduceToNat,Nat.reduceBEq]
  generalize B7z Y X=Gn
  have hz:=PMz (X:=X) (Y:=Y)
  refine B5z Y (fun j=>slots 109 [(4,.c .box [.ow false 2 [],.ow false 1 [],.ow false 5 []]),(5,.c .box [.ow false 2 (r.Attrs.map TAttr.pv),.ow false 1 (Gn.map spv),.ow false 5 ((Buz X (Y.take j)).map TEntry.ov)]),(8,.c .one [.ow false 5 (X.map TEntry.ov)]),(9,.c .one [.ow false 5 (holed X Y j)]),(80,.c .one [.br 9 0 [] 0 0 false 5 (holed X Y j)]),(81,.c .one [.sh false (.i .i64 (Y.length:Nat))]),(82,.c .one [.sh false (.i .i64 (j:Nat))])]) (fun _=>True) (hd (Nat.zero_le _)) (by omega) ?_ (fun j e hx he hj h1 hw _=> ?_) (fun _=> ?_)
  ·simp only[go_sem,Nat.reduceLT,Nat.reduceAdd,Nat.reduceSub,Nat.reduceEqDiff,Nat.reduceLeDiff,Int.reduceEq,Int.reduceBEq,Int.reduceBNe,Int.reduceNeg,UInt8.reduceToNat,Nat.reduceBEq];exact fin' (by rw[hz];rfl)
  ·rw[Juz hx,PNz hx]
   have hl:=Hxz (X:=X) (l:=Y) (j:=j)
   have g1:((Buz X (Y.take j)).length+1)*88≤LIM:=by omega
   generalize Buz X (Y.take j)=L at hl g1 ⊢
   have hg:=Qpz (X:=X) hx
   have hgl:=Qoz (X:=X) (Y:=Y) (j:=j)
   generalize holed X Y j=H at hg hgl ⊢
   have hge:DBz X e=match Dlz X e.Path with
    |none=>true
    |some o=> !eqE e o:=rfl
   generalize DBz X e=G at hge ⊢
   have hs1:∀r,(H.set j r)[j]? =some r:=fun r=>List.getElem?_set_self (by omega)
   simp only[go_sem,Nat.reduceLT,Nat.reduceAdd,Nat.reduceSub,Nat.reduceEqDiff,Nat.reduceLeDiff,Int.reduceEq,Int.reduceBEq,Int.reduceBNe,Int.reduceNeg,UInt8.reduceToNat,Nat.reduceBEq,h1,hg,hgl]
   refine Auz (J4z k (hd (by decide)) _ _ _ _ X (by omega) e.Path (by simp only[List.length_cons];omega) rfl rfl) ?_
   unfold atL
   rcases F5z X e.Path with⟨f1,f2⟩|⟨j2,o,f1,f2,hy⟩
   ·rw[f1]at hge ⊢
    have hge:G=true:=hge
    subst hge
    rw[if_pos rfl,if_pos rfl]
    simp only[go_sem,Nat.reduceLT,Nat.reduceAdd,Nat.reduceSub,Nat.reduceEqDiff,Nat.reduceLeDiff,Int.reduceEq,Int.reduceBEq,Int.reduceBNe,Int.reduceNeg,UInt8.reduceToNat,Nat.reduceBEq,g1,hw,hg,hgl,hs1,List.set_set]
    exact fin' (by first|rfl|(simp only[List.map_append];rfl))
   ·rw[f1]at hge ⊢
    rw[f2]
    have hge:G= !eqE e o:=hge
    have c7:=Hgz k (hd (by decide)) e o (hY e he).1
    try simp only[go_sem]at c7
    have hcs:(eqE e o=true∧G=false)∨(eqE e o=false∧G=true):=by rw[hge];cases eqE e o<;>simp
    rcases hcs with⟨q1,rfl⟩|⟨q1,rfl⟩
    all_goals
     simp only[go_sem,Nat.reduceLT,Nat.reduceAdd,Nat.reduceSub,Nat.reduceEqDiff,Nat.reduceLeDiff,Int.reduceEq,Int.reduceBEq,Int.reduceBNe,Int.reduceNeg,UInt8.reduceToNat,Nat.reduceBEq,c7,q1]
     try simp only[go_sem,Nat.reduceLT,Nat.reduceAdd,Nat.reduceSub,Nat.reduceEqDiff,Nat.reduceLeDiff,Int.reduceEq,Int.reduceBEq,Int.reduceBNe,Int.reduceNeg,UInt8.reduceToNat,Nat.reduceBEq,g1,hw,hg,hgl,hs1,List.set_set]
     try exact fin' (by first|rfl|(simp only[List.map_append];rfl)|(rw[if_neg (by decide),if_neg (by decide),List.append_nil];rfl))
  ·rw[List.take_length]
   simp only[go_sem,Nat.reduceLT,Nat.reduceAdd,Nat.reduceSub,Nat.reduceEqDiff,Nat.reduceLeDiff,Int.reduceEq,Int.reduceBEq,Int.reduceBNe,Int.reduceNeg,UInt8.reduceToNat,Nat.reduceBEq]
   rfl
end
end Go.Proofs.YtblelojdboefjaaGreatDoor.R
namespace Go.Proofs.YtblelojdboefjaaGreatDoor.R
open Go
def mB (_:UInt8) (k:Nat):UInt8×Nat:=(UInt8.ofNat k,k+1)
def mTxt (k:Nat):ByteArray:=⟨⟨[109]⟩⟩++dec k
theorem Chz (n:Nat) (hn:Big+1≤n) (K:Nat) (hK:K≤4611686018427387904):pcall env n 129 [.c .one [.sh false (.i .i64 (K:Nat))]] []=some ⟨.c .one [.sh false (.t (mTxt K))],[]⟩:=by
 refine walk (fn:=Tryz.f129) (d:=0) hn rfl rfl rfl (Nat.le_of_ble_eq_true rfl) fun m hd=> ?_
 unfold Tryz.f129
 have hB:Big=9223372036854775808:=rfl
 have hm:=hd (Nat.zero_le _)
 by_cases h0:K=0
 ·subst h0
  have e:mTxt 0=⟨⟨[109,48]⟩⟩:=by unfold mTxt;rw[Mzz (by decide)];exact IMz
  rw[e]
  simp only[go_sem,Nat.reduceLT,Nat.reduceAdd,Nat.reduceSub,Nat.reduceEqDiff,Nat.reduceLeDiff,Int.reduceEq,Int.reduceBEq,Int.reduceBNe,Int.reduceNeg,UInt8.reduceToNat,Nat.reduceBEq]
 ·have h0':((K:Int)≤0)=False:=by simp only[eq_iff_iff,iff_false];omega
  have hds:=Sdz K
  simp only[go_sem,Nat.reduceLT,Nat.reduceAdd,Nat.reduceSub,Nat.reduceEqDiff,Nat.reduceLeDiff,Int.reduceEq,Int.reduceBEq,Int.reduceBNe,Int.reduceNeg,UInt8.reduceToNat,Nat.reduceBEq,h0']
  refine AGz (fun k τ=>∃(out:ByteArray),k≤K∧(0<k→dec K=dec k++out)∧(k=0→dec K=out)∧τ=slots 20 [(0,.c .one [.sh false (.i .i64 (k:Nat))]),(3,.c .one [.sh false (.t (out))])]) K (by omega) ?_ ?_
  ·simp only[go_sem,Nat.reduceLT,Nat.reduceAdd,Nat.reduceSub,Nat.reduceEqDiff,Nat.reduceLeDiff,Int.reduceEq,Int.reduceBEq,Int.reduceBNe,Int.reduceNeg,UInt8.reduceToNat,Nat.reduceBEq]
   exact⟨⟨⟨[]⟩⟩,Nat.le_refl _,fun _=>by apply ByteArray.ext;simp,fun h=>absurd h h0,rfl⟩
  ·rintro k τ ⟨out,hk,g1,g2,rfl⟩
   by_cases h1:0<k
   ·have h1':((k:Int)>0)=True:=by simp only[eq_iff_iff,iff_true];omega
    have e1:=g1 h1
    have hsz:out.size≤4611686018427387905:=by
     have:=congrArg ByteArray.size e1
     rw[ByteArray.size_append]at this
     omega
    have w1:IntKind.i64.wrap (48+(k:Int).tmod 10)=((48+k % 10:Nat):Int):=by
     rw[show(k:Int).tmod 10=((k % 10:Nat):Int)from rfl,AYz (by omega) (by omega)];omega
    have w2:IntKind.i64.wrap ((k:Int).tdiv 10)=((k/10:Nat):Int):=by
     rw[show(k:Int).tdiv 10=((k/10:Nat):Int)from rfl,AYz (by omega) (by omega)]
    have e3:(((1+out.size:Nat):Int)>IntKind.i64.max)=False:=by rw[Qlz];simp only[eq_iff_iff,iff_false];omega
    simp only[go_sem,Nat.reduceLT,Nat.reduceAdd,Nat.reduceSub,Nat.reduceEqDiff,Nat.reduceLeDiff,Int.reduceEq,Int.reduceBEq,Int.reduceBNe,Int.reduceNeg,UInt8.reduceToNat,Nat.reduceBEq,h1',w1,w2,u8w,UInt8.ofNat_toNat,e3]
    refine⟨k/10,by omega,⟨⟨[UInt8.ofNat (48+k % 10)]⟩⟩++out,by omega,fun h=> ?_,fun h=> ?_,rfl⟩
    ·rw[e1,Q8z (show¬k<10 by omega),ByteArray.append_assoc]
    ·rw[e1,Mzz (show k<10 by omega),Nat.mod_eq_of_lt (show k<10 by omega)]
   ·have h1':((k:Int)>0)=False:=by simp only[eq_iff_iff,iff_false];omega
    obtain rfl:k=0:=by omega
    have hsz:out.size≤4611686018427387905:=by rw[←g2 rfl];omega
    have e3:(((1+out.size:Nat):Int)>IntKind.i64.max)=False:=by rw[Qlz];simp only[eq_iff_iff,iff_false];omega
    simp only[go_sem,Nat.reduceLT,Nat.reduceAdd,Nat.reduceSub,Nat.reduceEqDiff,Nat.reduceLeDiff,Int.reduceEq,Int.reduceBEq,Int.reduceBNe,Int.reduceNeg,UInt8.reduceToNat,Nat.reduceBEq,h1',e3]
    rw[mTxt,g2 rfl]
def mS (_:ByteArray) (k:Nat):ByteArray×Nat:=(mTxt k,k+1)
theorem Btz {α:Type} {f:α→Nat→α×Nat} (hf:∀x k,k≤(f x k).2) {l:List α} {k:Nat}:k≤(mkL f l k).2:=by
 have:=Bwz hf (l:=l) (k:=k) (j:=0)
 exact Nat.le_trans this.1 this.2
theorem GXz {α:Type} {f:α→Nat→α×Nat}:∀{l:List α} {k j:Nat} {x:α},l[j]? =some x→(mkL f l k).1[j]? =some (f x (mkL f (l.take j) k).2).1
 |[],k,j,x,h=>by simp at h
 |y::l,k,0,x,h=>by simp at h;subst h;rfl
 |y::l,k,j+1,x,h=>by
  have h':l[j]? =some x:=by simpa using h
  have:=GXz (f:=f) (k:=(f y k).2) h'
  simpa only[List.take_succ_cons,mkL,List.getElem?_cons_succ]using this
@[go_sem] theorem KVz {k:Nat}:((k:Int)<0)=False:=by simp
theorem Gvz:∀x k,k≤(mB x k).2:=fun _ k=>Nat.le_succ k
theorem Lez:∀x k,k≤(mS x k).2:=fun _ k=>Nat.le_succ k
theorem Bnz {s o:Nat} {q:Path} {es:Nat} {rows r:List (List PV)} {σ:St} (h:rows≠[]):tu s o q es rows r σ=modS s o q (AHz es r) false σ:=by
 cases rows with
 |nil=>exact absurd rfl h
 |cons a l=>rfl
theorem Wr.sub {s o:Nat} {q:Path} {es es' d i j:Nat} {σ0 σ:St} {rows r0:List (List PV)} {row:List PV} (h:Wr s o q es d σ0 σ rows) (h1:rows[i]? =some row) (h2:row[j]? =some (.o es' r0)):(AAz σ s o).atQ (q++[(i,j)])=some (false,es',r0):=by
 obtain⟨es0,rows0,g1,g2⟩:=Kmz h.cell
 rw[g1]
 simp only[CV.atQ]
 rw[Mnz g2]
 simp only[getP,h1,h2,Option.bind_some,Option.map_some]
end Go.Proofs.YtblelojdboefjaaGreatDoor.R
namespace Go.Proofs.YtblelojdboefjaaGreatDoor.R
open Go
def ANz (x:TAttr) (k:Nat):TAttr×Nat:=(⟨mTxt (k),mTxt (k+1)⟩,k+1+1)
theorem C3z:∀x k,k≤(ANz x k).2:=by
 intro x k
 unfold ANz
 simp only
 omega
set_option maxHeartbeats 4000000 in
theorem CSz (n:Nat) (hn:Big+2≤n) (d s o:Nat) (q:Path) (σ:St) (l:List TAttr) (ho:∀y∈l,TAttr.ok y) (k:Nat) (hl:l.length≤Bd) (hk:(mkL ANz l k).2≤4611686018427387904) (hd:d<σ.length) (hp:plain (σ.getD d .undef)=true)
  (hc:(AAz σ s o).atQ q=some (false,2,l.map TAttr.pv)):icall env n 54 d σ [.c .one [.br s o q 0 0 false 2 (l.map TAttr.pv)],.c .one [.sh false (.i .i64 ((k:Nat):Int))]]=some ((tu s o q 2 (l.map TAttr.pv) ((mkL ANz l k).1.map TAttr.pv) σ).set d (.c .one [.sh false (.i .i64 (((mkL ANz l k).2:Nat):Int))]),.c .one [.sh false (.i .i64 (((mkL ANz l k).2:Nat):Int))]):=by
 refine E0z (fn:=Tryz.f54) (d0:=1) hn rfl rfl (Nat.le_of_ble_eq_true rfl) fun m hd0=> ?_
 unfold Tryz.f54
 have hb:Bd=1048576:=rfl
 have hT:=fun k hk=>Chz m (hd0 (by decide)) k hk
 simp only[go_sem,Nat.reduceLT,Nat.reduceAdd,Nat.reduceSub,Nat.reduceEqDiff,Nat.reduceLeDiff,Int.reduceEq,Int.reduceBEq,Int.reduceBNe,Int.reduceNeg,UInt8.reduceToNat,Nat.reduceBEq]
 refine GPz l.length (fun j σk=>slots 29 [(0,.c .one [.br (s+29) o q 0 0 false 2 (mkR ANz TAttr.pv l k j)]),(1,.c .one [.sh false (.i .i64 (((mkL ANz (l.take j) k).2:Nat):Int))]),(5,.c .one [.sh false (.i .i64 ((j:Nat):Int))])]++upSt 29 σk) (Rnd s o q 2 d σ (mkR ANz TAttr.pv l k)) (hd0 (Nat.zero_le _)) (by omega) ?_ (fun j σk hj h1 hw hI=> ?_) (fun σk hI=> ?_)
 ·simp only[go_sem,Nat.reduceLT,Nat.reduceAdd,Nat.reduceSub,Nat.reduceEqDiff,Nat.reduceLeDiff,Int.reduceEq,Int.reduceBEq,Int.reduceBNe,Int.reduceNeg,UInt8.reduceToNat,Nat.reduceBEq]
  exact finE σ (by rw[CEz];rfl) ⟨.refl (by rw[CEz];exact hc) hp,fun _=>rfl,fun h=>absurd h (Nat.lt_irrefl _)⟩
 ·have hx:l[j]? =some l[j]:=List.getElem?_eq_getElem hj
  have hox:=ho _ (List.getElem_mem hj)
  generalize l[j]=x at hx hox
  have hW:=hI.1
  have hcell:=hW.cell
  have hg:=FNz (f:=ANz) (pv:=TAttr.pv) (k:=k) hx
  have hlen:=BTz (f:=ANz) (pv:=TAttr.pv) (k:=k) (Nat.le_of_lt hj)
  have hm:=(Bwz (f:=ANz) C3z (l:=l) (k:=k) (j:=j+1)).2
  have ht:(mkL ANz (l.take (j+1)) k).2=(ANz x (mkL ANz (l.take j) k).2).2:=by rw[CFz hx]
  have hs:∀p,p=TAttr.pv (ANz x (mkL ANz (l.take j) k).2).1→(mkR ANz TAttr.pv l k j).set j p=mkR ANz TAttr.pv l k (j+1):=fun p hp=>FMz hx hp
  have hr:(mkR ANz TAttr.pv l k (j+1)).length=(mkR ANz TAttr.pv l k j).length:=by rw[hlen,BTz hj]
  obtain⟨K0,hK⟩:∃K,(mkL ANz (l.take j) k).2=K:=⟨_,rfl⟩
  rw[hK]at hs ht
  have ht':(mkL ANz (l.take (j+1)) k).2=K0+1+1:=by rw[ht];simp only[ANz]
  have hs':(mkR ANz TAttr.pv l k j).set j [.t (mTxt (K0)),.t (mTxt (K0+1))]=mkR ANz TAttr.pv l k (j+1):=hs _ (by simp only[ANz,TAttr.pv])
  have w0:IntKind.i64.wrap (((K0:Nat):Int)+1)=((K0+1:Nat):Int):=by rw[AYz (by omega) (by omega)];omega
  have t0:=hT (K0) (by omega)
  have w1:IntKind.i64.wrap (((K0+1:Nat):Int)+1)=(((mkL ANz (l.take (j+1)) k).2:Nat):Int):=by rw[ht'];rw[AYz (by omega) (by omega)];omega
  have t1:=hT (K0+1) (by omega)
  have hW1:=hW.store (r:=(mkR ANz TAttr.pv l k j).set j [.t (mTxt (K0)),.t x.Val]) (by simp only[List.length_set])
  have c1:=hW1.cell
  simp only[AOz]at c1
  simp only[go_sem,Nat.reduceLT,Nat.reduceAdd,Nat.reduceSub,Nat.reduceEqDiff,Nat.reduceLeDiff,Int.reduceEq,Int.reduceBEq,Int.reduceBNe,Int.reduceNeg,UInt8.reduceToNat,Nat.reduceBEq,h1,hlen,hcell,hg,hK,hw,List.length_set,w0,t0,w1,t1,c1,hs']
  exact finE _ rfl ⟨hW1.store (by simp only[List.length_set,hr]),fun h=>absurd h (Nat.succ_ne_zero _),fun _=>hW1.nrm (by simp only[List.length_set,hr])⟩
 ·have hlen:=BTz (f:=ANz) (pv:=TAttr.pv) (l:=l) (k:=k) (Nat.le_refl _)
  have he:=hI.end (r0:=l.map TAttr.pv) (by simp)
  simp only[go_sem,Nat.reduceLT,Nat.reduceAdd,Nat.reduceSub,Nat.reduceEqDiff,Nat.reduceLeDiff,Int.reduceEq,Int.reduceBEq,Int.reduceBNe,Int.reduceNeg,UInt8.reduceToNat,Nat.reduceBEq,hlen,List.take_length]
  refine Auz (A8z (σ:=σk) ⟨by simp,rfl⟩ (by rw[hI.1.len];exact hd) hI.1.pl (by decide) rfl) ?_
  rw[he,FOz]
  rfl
set_option maxHeartbeats 4000000 in
theorem Htz (n:Nat) (hn:Big+1≤n) (d s o:Nat) (q:Path) (σ:St) (l:List UInt8) (ho:∀y∈l,okB y) (k:Nat) (hl:l.length≤Bd) (hk:(mkL mB l k).2≤4611686018427387904) (hd:d<σ.length) (hp:plain (σ.getD d .undef)=true)
  (hc:(AAz σ s o).atQ q=some (false,1,l.map bpv)):icall env n 24 d σ [.c .one [.br s o q 0 0 false 1 (l.map bpv)],.c .one [.sh false (.i .i64 ((k:Nat):Int))]]=some ((tu s o q 1 (l.map bpv) ((mkL mB l k).1.map bpv) σ).set d (.c .one [.sh false (.i .i64 (((mkL mB l k).2:Nat):Int))]),.c .one [.sh false (.i .i64 (((mkL mB l k).2:Nat):Int))]):=by
 refine E0z (fn:=Tryz.f24) (d0:=0) hn rfl rfl (Nat.le_of_ble_eq_true rfl) fun m hd0=> ?_
 unfold Tryz.f24
 have hb:Bd=1048576:=rfl
 simp only[go_sem,Nat.reduceLT,Nat.reduceAdd,Nat.reduceSub,Nat.reduceEqDiff,Nat.reduceLeDiff,Int.reduceEq,Int.reduceBEq,Int.reduceBNe,Int.reduceNeg,UInt8.reduceToNat,Nat.reduceBEq]
 refine GPz l.length (fun j σk=>slots 20 [(0,.c .one [.br (s+20) o q 0 0 false 1 (mkR mB bpv l k j)]),(1,.c .one [.sh false (.i .i64 (((mkL mB (l.take j) k).2:Nat):Int))]),(5,.c .one [.sh false (.i .i64 ((j:Nat):Int))])]++upSt 20 σk) (Rnd s o q 1 d σ (mkR mB bpv l k)) (hd0 (Nat.zero_le _)) (by omega) ?_ (fun j σk hj h1 hw hI=> ?_) (fun σk hI=> ?_)
 ·simp only[go_sem,Nat.reduceLT,Nat.reduceAdd,Nat.reduceSub,Nat.reduceEqDiff,Nat.reduceLeDiff,Int.reduceEq,Int.reduceBEq,Int.reduceBNe,Int.reduceNeg,UInt8.reduceToNat,Nat.reduceBEq]
  exact finE σ (by rw[CEz];rfl) ⟨.refl (by rw[CEz];exact hc) hp,fun _=>rfl,fun h=>absurd h (Nat.lt_irrefl _)⟩
 ·have hx:l[j]? =some l[j]:=List.getElem?_eq_getElem hj
  have hox:=ho _ (List.getElem_mem hj)
  generalize l[j]=x at hx hox
  have hW:=hI.1
  have hcell:=hW.cell
  have hg:=FNz (f:=mB) (pv:=bpv) (k:=k) hx
  have hlen:=BTz (f:=mB) (pv:=bpv) (k:=k) (Nat.le_of_lt hj)
  have hm:=(Bwz (f:=mB) Gvz (l:=l) (k:=k) (j:=j+1)).2
  have ht:(mkL mB (l.take (j+1)) k).2=(mB x (mkL mB (l.take j) k).2).2:=by rw[CFz hx]
  have hs:∀p,p=bpv (mB x (mkL mB (l.take j) k).2).1→(mkR mB bpv l k j).set j p=mkR mB bpv l k (j+1):=fun p hp=>FMz hx hp
  have hr:(mkR mB bpv l k (j+1)).length=(mkR mB bpv l k j).length:=by rw[hlen,BTz hj]
  obtain⟨K0,hK⟩:∃K,(mkL mB (l.take j) k).2=K:=⟨_,rfl⟩
  rw[hK]at hs ht
  have ht':(mkL mB (l.take (j+1)) k).2=K0+1:=ht
  have w1:IntKind.i64.wrap ((K0:Int)+1)=(((mkL mB (l.take (j+1)) k).2:Nat):Int):=by rw[ht',AYz (by omega) (by omega)];omega
  have hs':=hs _ rfl
  simp only[mB,bpv]at hs'
  simp only[go_sem,Nat.reduceLT,Nat.reduceAdd,Nat.reduceSub,Nat.reduceEqDiff,Nat.reduceLeDiff,Int.reduceEq,Int.reduceBEq,Int.reduceBNe,Int.reduceNeg,UInt8.reduceToNat,Nat.reduceBEq,h1,hlen,hcell,hg,hK,w1,hw,u8w,hs']
  exact finE _ rfl ⟨hW.store hr,fun h=>absurd h (Nat.succ_ne_zero _),fun _=>hW.nrm hr⟩
 ·have hlen:=BTz (f:=mB) (pv:=bpv) (l:=l) (k:=k) (Nat.le_refl _)
  have he:=hI.end (r0:=l.map bpv) (by simp)
  simp only[go_sem,Nat.reduceLT,Nat.reduceAdd,Nat.reduceSub,Nat.reduceEqDiff,Nat.reduceLeDiff,Int.reduceEq,Int.reduceBEq,Int.reduceBNe,Int.reduceNeg,UInt8.reduceToNat,Nat.reduceBEq,hlen,List.take_length]
  refine Auz (A8z (σ:=σk) ⟨by simp,rfl⟩ (by rw[hI.1.len];exact hd) hI.1.pl (by decide) rfl) ?_
  rw[he,FOz]
  rfl
def mEnt (x:TEnt) (k:Nat):TEnt×Nat:=(⟨mTxt (k),((k+1:Nat):Int)⟩,k+1+1)
theorem KWz:∀x k,k≤(mEnt x k).2:=by
 intro x k
 unfold mEnt
 simp only
 omega
set_option maxHeartbeats 4000000 in
theorem Idz (n:Nat) (hn:Big+2≤n) (d s o:Nat) (q:Path) (σ:St) (l:List TEnt) (ho:∀y∈l,TEnt.ok y) (k:Nat) (hl:l.length≤Bd) (hk:(mkL mEnt l k).2≤4611686018427387904) (hd:d<σ.length) (hp:plain (σ.getD d .undef)=true)
  (hc:(AAz σ s o).atQ q=some (false,2,l.map TEnt.pv)):icall env n 128 d σ [.c .one [.br s o q 0 0 false 2 (l.map TEnt.pv)],.c .one [.sh false (.i .i64 ((k:Nat):Int))]]=some ((tu s o q 2 (l.map TEnt.pv) ((mkL mEnt l k).1.map TEnt.pv) σ).set d (.c .one [.sh false (.i .i64 (((mkL mEnt l k).2:Nat):Int))]),.c .one [.sh false (.i .i64 (((mkL mEnt l k).2:Nat):Int))]):=by
 refine E0z (fn:=Tryz.f128) (d0:=1) hn rfl rfl (Nat.le_of_ble_eq_true rfl) fun m hd0=> ?_
 unfold Tryz.f128
 have hb:Bd=1048576:=rfl
 have hT:=fun k hk=>Chz m (hd0 (by decide)) k hk
 simp only[go_sem,Nat.reduceLT,Nat.reduceAdd,Nat.reduceSub,Nat.reduceEqDiff,Nat.reduceLeDiff,Int.reduceEq,Int.reduceBEq,Int.reduceBNe,Int.reduceNeg,UInt8.reduceToNat,Nat.reduceBEq]
 refine GPz l.length (fun j σk=>slots 28 [(0,.c .one [.br (s+28) o q 0 0 false 2 (mkR mEnt TEnt.pv l k j)]),(1,.c .one [.sh false (.i .i64 (((mkL mEnt (l.take j) k).2:Nat):Int))]),(5,.c .one [.sh false (.i .i64 ((j:Nat):Int))])]++upSt 28 σk) (Rnd s o q 2 d σ (mkR mEnt TEnt.pv l k)) (hd0 (Nat.zero_le _)) (by omega) ?_ (fun j σk hj h1 hw hI=> ?_) (fun σk hI=> ?_)
 ·simp only[go_sem,Nat.reduceLT,Nat.reduceAdd,Nat.reduceSub,Nat.reduceEqDiff,Nat.reduceLeDiff,Int.reduceEq,Int.reduceBEq,Int.reduceBNe,Int.reduceNeg,UInt8.reduceToNat,Nat.reduceBEq]
  exact finE σ (by rw[CEz];rfl) ⟨.refl (by rw[CEz];exact hc) hp,fun _=>rfl,fun h=>absurd h (Nat.lt_irrefl _)⟩
 ·have hx:l[j]? =some l[j]:=List.getElem?_eq_getElem hj
  have hox:=ho _ (List.getElem_mem hj)
  generalize l[j]=x at hx hox
  have hW:=hI.1
  have hcell:=hW.cell
  have hg:=FNz (f:=mEnt) (pv:=TEnt.pv) (k:=k) hx
  have hlen:=BTz (f:=mEnt) (pv:=TEnt.pv) (k:=k) (Nat.le_of_lt hj)
  have hm:=(Bwz (f:=mEnt) KWz (l:=l) (k:=k) (j:=j+1)).2
  have ht:(mkL mEnt (l.take (j+1)) k).2=(mEnt x (mkL mEnt (l.take j) k).2).2:=by rw[CFz hx]
  have hs:∀p,p=TEnt.pv (mEnt x (mkL mEnt (l.take j) k).2).1→(mkR mEnt TEnt.pv l k j).set j p=mkR mEnt TEnt.pv l k (j+1):=fun p hp=>FMz hx hp
  have hr:(mkR mEnt TEnt.pv l k (j+1)).length=(mkR mEnt TEnt.pv l k j).length:=by rw[hlen,BTz hj]
  obtain⟨K0,hK⟩:∃K,(mkL mEnt (l.take j) k).2=K:=⟨_,rfl⟩
  rw[hK]at hs ht
  have ht':(mkL mEnt (l.take (j+1)) k).2=K0+1+1:=by rw[ht];simp only[mEnt]
  have hs':(mkR mEnt TEnt.pv l k j).set j [.t (mTxt (K0)),.i .i64 ((K0+1:Nat):Int)]=mkR mEnt TEnt.pv l k (j+1):=hs _ (by simp only[mEnt,TEnt.pv])
  have w0:IntKind.i64.wrap (((K0:Nat):Int)+1)=((K0+1:Nat):Int):=by rw[AYz (by omega) (by omega)];omega
  have t0:=hT (K0) (by omega)
  have w1:IntKind.i64.wrap (((K0+1:Nat):Int)+1)=(((mkL mEnt (l.take (j+1)) k).2:Nat):Int):=by rw[ht'];rw[AYz (by omega) (by omega)];omega
  have hW1:=hW.store (r:=(mkR mEnt TEnt.pv l k j).set j [.t (mTxt (K0)),.i .i64 x.Ino]) (by simp only[List.length_set])
  have c1:=hW1.cell
  simp only[AOz]at c1
  simp only[go_sem,Nat.reduceLT,Nat.reduceAdd,Nat.reduceSub,Nat.reduceEqDiff,Nat.reduceLeDiff,Int.reduceEq,Int.reduceBEq,Int.reduceBNe,Int.reduceNeg,UInt8.reduceToNat,Nat.reduceBEq,h1,hlen,hcell,hg,hK,hw,List.length_set,w0,t0,w1,c1,hs']
  exact finE _ rfl ⟨hW1.store (by simp only[List.length_set,hr]),fun h=>absurd h (Nat.succ_ne_zero _),fun _=>hW1.nrm (by simp only[List.length_set,hr])⟩
 ·have hlen:=BTz (f:=mEnt) (pv:=TEnt.pv) (l:=l) (k:=k) (Nat.le_refl _)
  have he:=hI.end (r0:=l.map TEnt.pv) (by simp)
  simp only[go_sem,Nat.reduceLT,Nat.reduceAdd,Nat.reduceSub,Nat.reduceEqDiff,Nat.reduceLeDiff,Int.reduceEq,Int.reduceBEq,Int.reduceBNe,Int.reduceNeg,UInt8.reduceToNat,Nat.reduceBEq,hlen,List.take_length]
  refine Auz (A8z (σ:=σk) ⟨by simp,rfl⟩ (by rw[hI.1.len];exact hd) hI.1.pl (by decide) rfl) ?_
  rw[he,FOz]
  rfl
def ATz (x:TEntry) (k:Nat):TEntry×Nat:=(⟨mTxt (k),((k+1:Nat):Int),(mkL mB x.Data (k+1+1)).1,(mkL ANz x.Attrs ((mkL mB x.Data (k+1+1)).2)).1,mTxt ((mkL ANz x.Attrs ((mkL mB x.Data (k+1+1)).2)).2)⟩,(mkL ANz x.Attrs ((mkL mB x.Data (k+1+1)).2)).2+1)
theorem Fxz:∀x k,k≤(ATz x k).2:=by
 intro x k
 have g0:=Btz Gvz (l:=x.Data) (k:=k+1+1)
 have g1:=Btz C3z (l:=x.Attrs) (k:=(mkL mB x.Data (k+1+1)).2)
 unfold ATz
 simp only
 omega
set_option maxHeartbeats 4000000 in
theorem Dxz (n:Nat) (hn:Big+3≤n) (d s o:Nat) (q:Path) (σ:St) (l:List TEntry) (ho:∀y∈l,TEntry.ok y) (k:Nat) (hl:l.length≤Bd) (hk:(mkL ATz l k).2≤4611686018427387904) (hd:d<σ.length) (hp:plain (σ.getD d .undef)=true)
  (hc:(AAz σ s o).atQ q=some (false,5,l.map TEntry.ov)):icall env n 56 d σ [.c .one [.br s o q 0 0 false 5 (l.map TEntry.ov)],.c .one [.sh false (.i .i64 ((k:Nat):Int))]]=some ((tu s o q 5 (l.map TEntry.ov) ((mkL ATz l k).1.map TEntry.ov) σ).set d (.c .one [.sh false (.i .i64 (((mkL ATz l k).2:Nat):Int))]),.c .one [.sh false (.i .i64 (((mkL ATz l k).2:Nat):Int))]):=by
 refine E0z (fn:=Tryz.f56) (d0:=2) hn rfl rfl (Nat.le_of_ble_eq_true rfl) fun m hd0=> ?_
 unfold Tryz.f56
 have hb:Bd=1048576:=rfl
 have hT:=fun k hk=>Chz m (hd0 (by decide)) k hk
 simp only[go_sem,Nat.reduceLT,Nat.reduceAdd,Nat.reduceSub,Nat.reduceEqDiff,Nat.reduceLeDiff,Int.reduceEq,Int.reduceBEq,Int.reduceBNe,Int.reduceNeg,UInt8.reduceToNat,Nat.reduceBEq]
 refine GPz l.length (fun j σk=>slots 50 [(0,.c .one [.br (s+50) o q 0 0 false 5 (mkR ATz TEntry.ov l k j)]),(1,.c .one [.sh false (.i .i64 (((mkL ATz (l.take j) k).2:Nat):Int))]),(5,.c .one [.sh false (.i .i64 ((j:Nat):Int))])]++upSt 50 σk) (Rnd s o q 5 d σ (mkR ATz TEntry.ov l k)) (hd0 (Nat.zero_le _)) (by omega) ?_ (fun j σk hj h1 hw hI=> ?_) (fun σk hI=> ?_)
 ·simp only[go_sem,Nat.reduceLT,Nat.reduceAdd,Nat.reduceSub,Nat.reduceEqDiff,Nat.reduceLeDiff,Int.reduceEq,Int.reduceBEq,Int.reduceBNe,Int.reduceNeg,UInt8.reduceToNat,Nat.reduceBEq]
  exact finE σ (by rw[CEz];rfl) ⟨.refl (by rw[CEz];exact hc) hp,fun _=>rfl,fun h=>absurd h (Nat.lt_irrefl _)⟩
 ·have hx:l[j]? =some l[j]:=List.getElem?_eq_getElem hj
  have hox:=ho _ (List.getElem_mem hj)
  generalize l[j]=x at hx hox
  have hW:=hI.1
  have hcell:=hW.cell
  have hg:=FNz (f:=ATz) (pv:=TEntry.ov) (k:=k) hx
  have hlen:=BTz (f:=ATz) (pv:=TEntry.ov) (k:=k) (Nat.le_of_lt hj)
  have hm:=(Bwz (f:=ATz) Fxz (l:=l) (k:=k) (j:=j+1)).2
  have ht:(mkL ATz (l.take (j+1)) k).2=(ATz x (mkL ATz (l.take j) k).2).2:=by rw[CFz hx]
  have hs:∀p,p=TEntry.ov (ATz x (mkL ATz (l.take j) k).2).1→(mkR ATz TEntry.ov l k j).set j p=mkR ATz TEntry.ov l k (j+1):=fun p hp=>FMz hx hp
  have hr:(mkR ATz TEntry.ov l k (j+1)).length=(mkR ATz TEntry.ov l k j).length:=by rw[hlen,BTz hj]
  obtain⟨K0,hK⟩:∃K,(mkL ATz (l.take j) k).2=K:=⟨_,rfl⟩
  rw[hK]at hs ht
  obtain⟨K3,hK3⟩:∃K,(mkL mB x.Data (K0+1+1)).2=K:=⟨_,rfl⟩
  have ge2:=Btz Gvz (l:=x.Data) (k:=K0+1+1)
  rw[hK3]at ge2
  obtain⟨K4,hK4⟩:∃K,(mkL ANz x.Attrs K3).2=K:=⟨_,rfl⟩
  have ge3:=Btz C3z (l:=x.Attrs) (k:=K3)
  rw[hK4]at ge3
  have ht':(mkL ATz (l.take (j+1)) k).2=K4+1:=by rw[ht];simp only[ATz,hK3,hK4]
  have hs':(mkR ATz TEntry.ov l k j).set j [.t (mTxt (K0)),.i .i64 ((K0+1:Nat):Int),.o 1 ((mkL mB x.Data (K0+1+1)).1.map bpv),.o 2 ((mkL ANz x.Attrs (K3)).1.map TAttr.pv),.t (mTxt (K4))]=mkR ATz TEntry.ov l k (j+1):=hs _ (by simp only[ATz,TEntry.ov,hK3,hK4])
  have w0:IntKind.i64.wrap (((K0:Nat):Int)+1)=((K0+1:Nat):Int):=by rw[AYz (by omega) (by omega)];omega
  have t0:=hT (K0) (by omega)
  have w1:IntKind.i64.wrap (((K0+1:Nat):Int)+1)=((K0+1+1:Nat):Int):=by rw[AYz (by omega) (by omega)];omega
  have w4:IntKind.i64.wrap (((K4:Nat):Int)+1)=(((mkL ATz (l.take (j+1)) k).2:Nat):Int):=by rw[ht'];rw[AYz (by omega) (by omega)];omega
  have t4:=hT (K4) (by omega)
  have hW1:=hW.store (r:=(mkR ATz TEntry.ov l k j).set j [.t (mTxt (K0)),.i .i64 x.Kind,.o 1 (x.Data.map bpv),.o 2 (x.Attrs.map TAttr.pv),.t x.First]) (by simp only[List.length_set])
  have c1:=hW1.cell
  simp only[AOz]at c1
  have hW2:=hW1.store (r:=(mkR ATz TEntry.ov l k j).set j [.t (mTxt (K0)),.i .i64 ((K0+1:Nat):Int),.o 1 (x.Data.map bpv),.o 2 (x.Attrs.map TAttr.pv),.t x.First]) (by simp only[List.length_set])
  have c2:=hW2.cell
  simp only[AOz]at c2
  have hrow2:((mkR ATz TEntry.ov l k j).set j [.t (mTxt (K0)),.i .i64 ((K0+1:Nat):Int),.o 1 (x.Data.map bpv),.o 2 (x.Attrs.map TAttr.pv),.t x.First])[j]? =some [.t (mTxt (K0)),.i .i64 ((K0+1:Nat):Int),.o 1 (x.Data.map bpv),.o 2 (x.Attrs.map TAttr.pv),.t x.First]:=by rw[List.getElem?_set_self (by rw[hlen];exact hj)]
  have n2:=hW2.sub hrow2 (j:=2) rfl
  simp only[AOz]at n2
  simp only[go_sem,Nat.reduceLT,Nat.reduceAdd,Nat.reduceSub,Nat.reduceEqDiff,Nat.reduceLeDiff,Int.reduceEq,Int.reduceBEq,Int.reduceBNe,Int.reduceNeg,UInt8.reduceToNat,Nat.reduceBEq,h1,hlen,hcell,hg,hK,hw,List.length_set,w0,t0,w1,w4,t4,c1,c2]
  refine Auz (Htz m (hd0 (by decide)) _ _ _ _ _ x.Data hox.Data.1 (K0+1+1) hox.Data.2 (by rw[hK3];omega) (by simp only[List.length_cons];omega) rfl (by simp only[go_sem,Nat.reduceLT,Nat.reduceAdd,Nat.reduceSub,Nat.reduceEqDiff,Nat.reduceLeDiff,Int.reduceEq,Int.reduceBEq,Int.reduceBNe,Int.reduceNeg,UInt8.reduceToNat,Nat.reduceBEq,n2])) ?_
  rcases Classical.em (x.Data=[])with hE2|hE2
  ·have v2:x.Data.map bpv=(mkL mB x.Data (K0+1+1)).1.map bpv:=by rw[hE2];rfl
   have u2:∀s o q r τ,tu s o q 1 ((mkL mB x.Data (K0+1+1)).1.map bpv) r τ=τ:=by rw[hE2];intros;rfl
   have hN2:=hW2
   rw[v2]at hN2
   simp only[v2]
   simp only[u2]
   have c3:=hN2.cell
   simp only[AOz]at c3
   have hrow3:((mkR ATz TEntry.ov l k j).set j [.t (mTxt (K0)),.i .i64 ((K0+1:Nat):Int),.o 1 ((mkL mB x.Data (K0+1+1)).1.map bpv),.o 2 (x.Attrs.map TAttr.pv),.t x.First])[j]? =some [.t (mTxt (K0)),.i .i64 ((K0+1:Nat):Int),.o 1 ((mkL mB x.Data (K0+1+1)).1.map bpv),.o 2 (x.Attrs.map TAttr.pv),.t x.First]:=by rw[List.getElem?_set_self (by rw[hlen];exact hj)]
   have n3:=hN2.sub hrow3 (j:=3) rfl
   simp only[AOz]at n3
   simp only[go_sem,Nat.reduceLT,Nat.reduceAdd,Nat.reduceSub,Nat.reduceEqDiff,Nat.reduceLeDiff,Int.reduceEq,Int.reduceBEq,Int.reduceBNe,Int.reduceNeg,UInt8.reduceToNat,Nat.reduceBEq,h1,hlen,hcell,hg,hK,hw,List.length_set,w0,t0,w1,w4,t4,c1,c2,c3,v2,hK3]
   refine Auz (CSz m (hd0 (by decide)) _ _ _ _ _ x.Attrs hox.Attrs.1 (K3) hox.Attrs.2 (by rw[hK4];omega) (by simp only[List.length_cons];omega) rfl (by simp only[go_sem,Nat.reduceLT,Nat.reduceAdd,Nat.reduceSub,Nat.reduceEqDiff,Nat.reduceLeDiff,Int.reduceEq,Int.reduceBEq,Int.reduceBNe,Int.reduceNeg,UInt8.reduceToNat,Nat.reduceBEq,n3])) ?_
   rcases Classical.em (x.Attrs=[])with hE3|hE3
   ·have v3:x.Attrs.map TAttr.pv=(mkL ANz x.Attrs (K3)).1.map TAttr.pv:=by rw[hE3];rfl
    have u3:∀s o q r τ,tu s o q 2 ((mkL ANz x.Attrs (K3)).1.map TAttr.pv) r τ=τ:=by rw[hE3];intros;rfl
    have hN3:=hN2
    rw[v3]at hN3
    simp only[v3]
    simp only[u3]
    have c4:=hN3.cell
    simp only[AOz]at c4
    simp only[go_sem,Nat.reduceLT,Nat.reduceAdd,Nat.reduceSub,Nat.reduceEqDiff,Nat.reduceLeDiff,Int.reduceEq,Int.reduceBEq,Int.reduceBNe,Int.reduceNeg,UInt8.reduceToNat,Nat.reduceBEq,h1,hlen,hcell,hg,hK,hw,List.length_set,w0,t0,w1,w4,t4,c1,c2,c3,v2,hK3,c4,v3,hK4,hs']
    exact finE _ rfl ⟨hN3.store (by simp only[List.length_set,hr]),fun h=>absurd h (Nat.succ_ne_zero _),fun _=>hN3.nrm (by simp only[List.length_set,hr])⟩
   ·have u3:∀s o q r τ,tu s o q 2 (x.Attrs.map TAttr.pv) r τ=modS s o q (AHz 2 r) false τ:=fun s o q r τ=>Bnz (by simpa using hE3)
    have hN3:=hN2.nest hrow3 (j:=3) rfl (r:=(mkL ANz x.Attrs (K3)).1.map TAttr.pv) (by simp only[List.length_map,AQz])
    simp only[List.set_set,List.set_cons_succ,List.set_cons_zero]at hN3
    simp only[u3]
    have c4:=hN3.cell
    simp only[AOz]at c4
    simp only[go_sem,Nat.reduceLT,Nat.reduceAdd,Nat.reduceSub,Nat.reduceEqDiff,Nat.reduceLeDiff,Int.reduceEq,Int.reduceBEq,Int.reduceBNe,Int.reduceNeg,UInt8.reduceToNat,Nat.reduceBEq,h1,hlen,hcell,hg,hK,hw,List.length_set,w0,t0,w1,w4,t4,c1,c2,c3,v2,hK3,c4,hrow3,hK4,AQz,List.length_map,hs']
    exact finE _ rfl ⟨hN3.store (by simp only[List.length_set,hr]),fun h=>absurd h (Nat.succ_ne_zero _),fun _=>hN3.nrm (by simp only[List.length_set,hr])⟩
  ·have u2:∀s o q r τ,tu s o q 1 (x.Data.map bpv) r τ=modS s o q (AHz 1 r) false τ:=fun s o q r τ=>Bnz (by simpa using hE2)
   have hN2:=hW2.nest hrow2 (j:=2) rfl (r:=(mkL mB x.Data (K0+1+1)).1.map bpv) (by simp only[List.length_map,AQz])
   simp only[List.set_set,List.set_cons_succ,List.set_cons_zero]at hN2
   simp only[u2]
   have c3:=hN2.cell
   simp only[AOz]at c3
   have hrow3:((mkR ATz TEntry.ov l k j).set j [.t (mTxt (K0)),.i .i64 ((K0+1:Nat):Int),.o 1 ((mkL mB x.Data (K0+1+1)).1.map bpv),.o 2 (x.Attrs.map TAttr.pv),.t x.First])[j]? =some [.t (mTxt (K0)),.i .i64 ((K0+1:Nat):Int),.o 1 ((mkL mB x.Data (K0+1+1)).1.map bpv),.o 2 (x.Attrs.map TAttr.pv),.t x.First]:=by rw[List.getElem?_set_self (by rw[hlen];exact hj)]
   have n3:=hN2.sub hrow3 (j:=3) rfl
   simp only[AOz]at n3
   simp only[go_sem,Nat.reduceLT,Nat.reduceAdd,Nat.reduceSub,Nat.reduceEqDiff,Nat.reduceLeDiff,Int.reduceEq,Int.reduceBEq,Int.reduceBNe,Int.reduceNeg,UInt8.reduceToNat,Nat.reduceBEq,h1,hlen,hcell,hg,hK,hw,List.length_set,w0,t0,w1,w4,t4,c1,c2,c3,hrow2,hK3,AQz,List.length_map]
   refine Auz (CSz m (hd0 (by decide)) _ _ _ _ _ x.Attrs hox.Attrs.1 (K3) hox.Attrs.2 (by rw[hK4];omega) (by simp only[List.length_cons];omega) rfl (by simp only[go_sem,Nat.reduceLT,Nat.reduceAdd,Nat.reduceSub,Nat.reduceEqDiff,Nat.reduceLeDiff,Int.reduceEq,Int.reduceBEq,Int.reduceBNe,Int.reduceNeg,UInt8.reduceToNat,Nat.reduceBEq,n3])) ?_
   rcases Classical.em (x.Attrs=[])with hE3|hE3
   ·have v3:x.Attrs.map TAttr.pv=(mkL ANz x.Attrs (K3)).1.map TAttr.pv:=by rw[hE3];rfl
    have u3:∀s o q r τ,tu s o q 2 ((mkL ANz x.Attrs (K3)).1.map TAttr.pv) r τ=τ:=by rw[hE3];intros;rfl
    have hN3:=hN2
    rw[v3]at hN3
    simp only[v3]
    simp only[u3]
    have c4:=hN3.cell
    simp only[AOz]at c4
    simp only[go_sem,Nat.reduceLT,Nat.reduceAdd,Nat.reduceSub,Nat.reduceEqDiff,Nat.reduceLeDiff,Int.reduceEq,Int.reduceBEq,Int.reduceBNe,Int.reduceNeg,UInt8.reduceToNat,Nat.reduceBEq,h1,hlen,hcell,hg,hK,hw,List.length_set,w0,t0,w1,w4,t4,c1,c2,c3,hrow2,hK3,AQz,List.length_map,c4,v3,hK4,hs']
    exact finE _ rfl ⟨hN3.store (by simp only[List.length_set,hr]),fun h=>absurd h (Nat.succ_ne_zero _),fun _=>hN3.nrm (by simp only[List.length_set,hr])⟩
   ·have u3:∀s o q r τ,tu s o q 2 (x.Attrs.map TAttr.pv) r τ=modS s o q (AHz 2 r) false τ:=fun s o q r τ=>Bnz (by simpa using hE3)
    have hN3:=hN2.nest hrow3 (j:=3) rfl (r:=(mkL ANz x.Attrs (K3)).1.map TAttr.pv) (by simp only[List.length_map,AQz])
    simp only[List.set_set,List.set_cons_succ,List.set_cons_zero]at hN3
    simp only[u3]
    have c4:=hN3.cell
    simp only[AOz]at c4
    simp only[go_sem,Nat.reduceLT,Nat.reduceAdd,Nat.reduceSub,Nat.reduceEqDiff,Nat.reduceLeDiff,Int.reduceEq,Int.reduceBEq,Int.reduceBNe,Int.reduceNeg,UInt8.reduceToNat,Nat.reduceBEq,h1,hlen,hcell,hg,hK,hw,List.length_set,w0,t0,w1,w4,t4,c1,c2,c3,hrow2,hK3,AQz,List.length_map,c4,hrow3,hK4,AQz,List.length_map,hs']
    exact finE _ rfl ⟨hN3.store (by simp only[List.length_set,hr]),fun h=>absurd h (Nat.succ_ne_zero _),fun _=>hN3.nrm (by simp only[List.length_set,hr])⟩
 ·have hlen:=BTz (f:=ATz) (pv:=TEntry.ov) (l:=l) (k:=k) (Nat.le_refl _)
  have he:=hI.end (r0:=l.map TEntry.ov) (by simp)
  simp only[go_sem,Nat.reduceLT,Nat.reduceAdd,Nat.reduceSub,Nat.reduceEqDiff,Nat.reduceLeDiff,Int.reduceEq,Int.reduceBEq,Int.reduceBNe,Int.reduceNeg,UInt8.reduceToNat,Nat.reduceBEq,hlen,List.take_length]
  refine Auz (A8z (σ:=σk) ⟨by simp,rfl⟩ (by rw[hI.1.len];exact hd) hI.1.pl (by decide) rfl) ?_
  rw[he,FOz]
  rfl
def Afz (x:TInode) (k:Nat):TInode×Nat:=(⟨((k:Nat):Int),((k+1:Nat):Int),((k+1+1:Nat):Int),(mkL mB x.Data (k+1+1+1)).1,(mkL mEnt x.Ents ((mkL mB x.Data (k+1+1+1)).2)).1,(mkL ANz x.Attrs ((mkL mEnt x.Ents ((mkL mB x.Data (k+1+1+1)).2)).2)).1⟩,(mkL ANz x.Attrs ((mkL mEnt x.Ents ((mkL mB x.Data (k+1+1+1)).2)).2)).2)
theorem QQz:∀x k,k≤(Afz x k).2:=by
 intro x k
 have g0:=Btz Gvz (l:=x.Data) (k:=k+1+1+1)
 have g1:=Btz KWz (l:=x.Ents) (k:=(mkL mB x.Data (k+1+1+1)).2)
 have g2:=Btz C3z (l:=x.Attrs) (k:=(mkL mEnt x.Ents ((mkL mB x.Data (k+1+1+1)).2)).2)
 unfold Afz
 simp only
 omega
set_option maxHeartbeats 4000000 in
theorem LXz (n:Nat) (hn:Big+3≤n) (d s o:Nat) (q:Path) (σ:St) (l:List TInode) (ho:∀y∈l,TInode.ok y) (k:Nat) (hl:l.length≤Bd) (hk:(mkL Afz l k).2≤4611686018427387904) (hd:d<σ.length) (hp:plain (σ.getD d .undef)=true)
  (hc:(AAz σ s o).atQ q=some (false,6,l.map TInode.ov)):icall env n 53 d σ [.c .one [.br s o q 0 0 false 6 (l.map TInode.ov)],.c .one [.sh false (.i .i64 ((k:Nat):Int))]]=some ((tu s o q 6 (l.map TInode.ov) ((mkL Afz l k).1.map TInode.ov) σ).set d (.c .one [.sh false (.i .i64 (((mkL Afz l k).2:Nat):Int))]),.c .one [.sh false (.i .i64 (((mkL Afz l k).2:Nat):Int))]):=by
 refine E0z (fn:=Tryz.f53) (d0:=2) hn rfl rfl (Nat.le_of_ble_eq_true rfl) fun m hd0=> ?_
 unfold Tryz.f53
 have hb:Bd=1048576:=rfl
 simp only[go_sem,Nat.reduceLT,Nat.reduceAdd,Nat.reduceSub,Nat.reduceEqDiff,Nat.reduceLeDiff,Int.reduceEq,Int.reduceBEq,Int.reduceBNe,Int.reduceNeg,UInt8.reduceToNat,Nat.reduceBEq]
 refine GPz l.length (fun j σk=>slots 55 [(0,.c .one [.br (s+55) o q 0 0 false 6 (mkR Afz TInode.ov l k j)]),(1,.c .one [.sh false (.i .i64 (((mkL Afz (l.take j) k).2:Nat):Int))]),(5,.c .one [.sh false (.i .i64 ((j:Nat):Int))])]++upSt 55 σk) (Rnd s o q 6 d σ (mkR Afz TInode.ov l k)) (hd0 (Nat.zero_le _)) (by omega) ?_ (fun j σk hj h1 hw hI=> ?_) (fun σk hI=> ?_)
 ·simp only[go_sem,Nat.reduceLT,Nat.reduceAdd,Nat.reduceSub,Nat.reduceEqDiff,Nat.reduceLeDiff,Int.reduceEq,Int.reduceBEq,Int.reduceBNe,Int.reduceNeg,UInt8.reduceToNat,Nat.reduceBEq]
  exact finE σ (by rw[CEz];rfl) ⟨.refl (by rw[CEz];exact hc) hp,fun _=>rfl,fun h=>absurd h (Nat.lt_irrefl _)⟩
 ·have hx:l[j]? =some l[j]:=List.getElem?_eq_getElem hj
  have hox:=ho _ (List.getElem_mem hj)
  generalize l[j]=x at hx hox
  have hW:=hI.1
  have hcell:=hW.cell
  have hg:=FNz (f:=Afz) (pv:=TInode.ov) (k:=k) hx
  have hlen:=BTz (f:=Afz) (pv:=TInode.ov) (k:=k) (Nat.le_of_lt hj)
  have hm:=(Bwz (f:=Afz) QQz (l:=l) (k:=k) (j:=j+1)).2
  have ht:(mkL Afz (l.take (j+1)) k).2=(Afz x (mkL Afz (l.take j) k).2).2:=by rw[CFz hx]
  have hs:∀p,p=TInode.ov (Afz x (mkL Afz (l.take j) k).2).1→(mkR Afz TInode.ov l k j).set j p=mkR Afz TInode.ov l k (j+1):=fun p hp=>FMz hx hp
  have hr:(mkR Afz TInode.ov l k (j+1)).length=(mkR Afz TInode.ov l k j).length:=by rw[hlen,BTz hj]
  obtain⟨K0,hK⟩:∃K,(mkL Afz (l.take j) k).2=K:=⟨_,rfl⟩
  rw[hK]at hs ht
  obtain⟨K4,hK4⟩:∃K,(mkL mB x.Data (K0+1+1+1)).2=K:=⟨_,rfl⟩
  have ge3:=Btz Gvz (l:=x.Data) (k:=K0+1+1+1)
  rw[hK4]at ge3
  obtain⟨K5,hK5⟩:∃K,(mkL mEnt x.Ents K4).2=K:=⟨_,rfl⟩
  have ge4:=Btz KWz (l:=x.Ents) (k:=K4)
  rw[hK5]at ge4
  obtain⟨K6,hK6⟩:∃K,(mkL ANz x.Attrs K5).2=K:=⟨_,rfl⟩
  have ge5:=Btz C3z (l:=x.Attrs) (k:=K5)
  rw[hK6]at ge5
  have ht':(mkL Afz (l.take (j+1)) k).2=K6:=by rw[ht];simp only[Afz,hK4,hK5,hK6]
  have hs':(mkR Afz TInode.ov l k j).set j [.i .i64 ((K0:Nat):Int),.i .i64 ((K0+1:Nat):Int),.i .i64 ((K0+1+1:Nat):Int),.o 1 ((mkL mB x.Data (K0+1+1+1)).1.map bpv),.o 2 ((mkL mEnt x.Ents (K4)).1.map TEnt.pv),.o 2 ((mkL ANz x.Attrs (K5)).1.map TAttr.pv)]=mkR Afz TInode.ov l k (j+1):=hs _ (by simp only[Afz,TInode.ov,hK4,hK5,hK6])
  subst ht'
  have w0:IntKind.i64.wrap (((K0:Nat):Int)+1)=((K0+1:Nat):Int):=by rw[AYz (by omega) (by omega)];omega
  have w1:IntKind.i64.wrap (((K0+1:Nat):Int)+1)=((K0+1+1:Nat):Int):=by rw[AYz (by omega) (by omega)];omega
  have w2:IntKind.i64.wrap (((K0+1+1:Nat):Int)+1)=((K0+1+1+1:Nat):Int):=by rw[AYz (by omega) (by omega)];omega
  have hW1:=hW.store (r:=(mkR Afz TInode.ov l k j).set j [.i .i64 ((K0:Nat):Int),.i .i64 x.Kind,.i .i64 x.Links,.o 1 (x.Data.map bpv),.o 2 (x.Ents.map TEnt.pv),.o 2 (x.Attrs.map TAttr.pv)]) (by simp only[List.length_set])
  have c1:=hW1.cell
  simp only[AOz]at c1
  have hW2:=hW1.store (r:=(mkR Afz TInode.ov l k j).set j [.i .i64 ((K0:Nat):Int),.i .i64 ((K0+1:Nat):Int),.i .i64 x.Links,.o 1 (x.Data.map bpv),.o 2 (x.Ents.map TEnt.pv),.o 2 (x.Attrs.map TAttr.pv)]) (by simp only[List.length_set])
  have c2:=hW2.cell
  simp only[AOz]at c2
  have hM3:=hW2.nrm (r:=(mkR Afz TInode.ov l k j).set j [.i .i64 ((K0:Nat):Int),.i .i64 ((K0+1:Nat):Int),.i .i64 ((K0+1+1:Nat):Int),.o 1 (x.Data.map bpv),.o 2 (x.Ents.map TEnt.pv),.o 2 (x.Attrs.map TAttr.pv)]) (by simp only[List.length_set])
  have hW3:=hW2.store (r:=(mkR Afz TInode.ov l k j).set j [.i .i64 ((K0:Nat):Int),.i .i64 ((K0+1:Nat):Int),.i .i64 ((K0+1+1:Nat):Int),.o 1 (x.Data.map bpv),.o 2 (x.Ents.map TEnt.pv),.o 2 (x.Attrs.map TAttr.pv)]) (by simp only[List.length_set])
  have c3:=hW3.cell
  simp only[AOz]at c3
  have hrow3:((mkR Afz TInode.ov l k j).set j [.i .i64 ((K0:Nat):Int),.i .i64 ((K0+1:Nat):Int),.i .i64 ((K0+1+1:Nat):Int),.o 1 (x.Data.map bpv),.o 2 (x.Ents.map TEnt.pv),.o 2 (x.Attrs.map TAttr.pv)])[j]? =some [.i .i64 ((K0:Nat):Int),.i .i64 ((K0+1:Nat):Int),.i .i64 ((K0+1+1:Nat):Int),.o 1 (x.Data.map bpv),.o 2 (x.Ents.map TEnt.pv),.o 2 (x.Attrs.map TAttr.pv)]:=by rw[List.getElem?_set_self (by rw[hlen];exact hj)]
  have n3:=hW3.sub hrow3 (j:=3) rfl
  simp only[AOz]at n3
  simp only[go_sem,Nat.reduceLT,Nat.reduceAdd,Nat.reduceSub,Nat.reduceEqDiff,Nat.reduceLeDiff,Int.reduceEq,Int.reduceBEq,Int.reduceBNe,Int.reduceNeg,UInt8.reduceToNat,Nat.reduceBEq,h1,hlen,hcell,hg,hK,hw,List.length_set,w0,w1,w2,c1,c2,c3]
  refine Auz (Htz m (hd0 (by decide)) _ _ _ _ _ x.Data hox.Data.1 (K0+1+1+1) hox.Data.2 (by rw[hK4];omega) (by simp only[List.length_cons];omega) rfl (by simp only[go_sem,Nat.reduceLT,Nat.reduceAdd,Nat.reduceSub,Nat.reduceEqDiff,Nat.reduceLeDiff,Int.reduceEq,Int.reduceBEq,Int.reduceBNe,Int.reduceNeg,UInt8.reduceToNat,Nat.reduceBEq,n3])) ?_
  rcases Classical.em (x.Data=[])with hE3|hE3
  ·have v3:x.Data.map bpv=(mkL mB x.Data (K0+1+1+1)).1.map bpv:=by rw[hE3];rfl
   have u3:∀s o q r τ,tu s o q 1 ((mkL mB x.Data (K0+1+1+1)).1.map bpv) r τ=τ:=by rw[hE3];intros;rfl
   have hN3:=hW3
   rw[v3]at hN3
   have hM4:=hM3
   rw[v3]at hM4
   simp only[v3]
   simp only[u3]
   have c4:=hN3.cell
   simp only[AOz]at c4
   have hrow4:((mkR Afz TInode.ov l k j).set j [.i .i64 ((K0:Nat):Int),.i .i64 ((K0+1:Nat):Int),.i .i64 ((K0+1+1:Nat):Int),.o 1 ((mkL mB x.Data (K0+1+1+1)).1.map bpv),.o 2 (x.Ents.map TEnt.pv),.o 2 (x.Attrs.map TAttr.pv)])[j]? =some [.i .i64 ((K0:Nat):Int),.i .i64 ((K0+1:Nat):Int),.i .i64 ((K0+1+1:Nat):Int),.o 1 ((mkL mB x.Data (K0+1+1+1)).1.map bpv),.o 2 (x.Ents.map TEnt.pv),.o 2 (x.Attrs.map TAttr.pv)]:=by rw[List.getElem?_set_self (by rw[hlen];exact hj)]
   have n4:=hN3.sub hrow4 (j:=4) rfl
   simp only[AOz]at n4
   simp only[go_sem,Nat.reduceLT,Nat.reduceAdd,Nat.reduceSub,Nat.reduceEqDiff,Nat.reduceLeDiff,Int.reduceEq,Int.reduceBEq,Int.reduceBNe,Int.reduceNeg,UInt8.reduceToNat,Nat.reduceBEq,h1,hlen,hcell,hg,hK,hw,List.length_set,w0,w1,w2,c1,c2,c3,c4,v3,hK4]
   refine Auz (Idz m (hd0 (by decide)) _ _ _ _ _ x.Ents hox.Ents.1 (K4) hox.Ents.2 (by rw[hK5];omega) (by simp only[List.length_cons];omega) rfl (by simp only[go_sem,Nat.reduceLT,Nat.reduceAdd,Nat.reduceSub,Nat.reduceEqDiff,Nat.reduceLeDiff,Int.reduceEq,Int.reduceBEq,Int.reduceBNe,Int.reduceNeg,UInt8.reduceToNat,Nat.reduceBEq,n4])) ?_
   rcases Classical.em (x.Ents=[])with hE4|hE4
   ·have v4:x.Ents.map TEnt.pv=(mkL mEnt x.Ents (K4)).1.map TEnt.pv:=by rw[hE4];rfl
    have u4:∀s o q r τ,tu s o q 2 ((mkL mEnt x.Ents (K4)).1.map TEnt.pv) r τ=τ:=by rw[hE4];intros;rfl
    have hN4:=hN3
    rw[v4]at hN4
    have hM5:=hM4
    rw[v4]at hM5
    simp only[v4]
    simp only[u4]
    have c5:=hN4.cell
    simp only[AOz]at c5
    have hrow5:((mkR Afz TInode.ov l k j).set j [.i .i64 ((K0:Nat):Int),.i .i64 ((K0+1:Nat):Int),.i .i64 ((K0+1+1:Nat):Int),.o 1 ((mkL mB x.Data (K0+1+1+1)).1.map bpv),.o 2 ((mkL mEnt x.Ents (K4)).1.map TEnt.pv),.o 2 (x.Attrs.map TAttr.pv)])[j]? =some [.i .i64 ((K0:Nat):Int),.i .i64 ((K0+1:Nat):Int),.i .i64 ((K0+1+1:Nat):Int),.o 1 ((mkL mB x.Data (K0+1+1+1)).1.map bpv),.o 2 ((mkL mEnt x.Ents (K4)).1.map TEnt.pv),.o 2 (x.Attrs.map TAttr.pv)]:=by rw[List.getElem?_set_self (by rw[hlen];exact hj)]
    have n5:=hN4.sub hrow5 (j:=5) rfl
    simp only[AOz]at n5
    simp only[go_sem,Nat.reduceLT,Nat.reduceAdd,Nat.reduceSub,Nat.reduceEqDiff,Nat.reduceLeDiff,Int.reduceEq,Int.reduceBEq,Int.reduceBNe,Int.reduceNeg,UInt8.reduceToNat,Nat.reduceBEq,h1,hlen,hcell,hg,hK,hw,List.length_set,w0,w1,w2,c1,c2,c3,c4,v3,hK4,c5,v4,hK5]
    refine Auz (CSz m (hd0 (by decide)) _ _ _ _ _ x.Attrs hox.Attrs.1 (K5) hox.Attrs.2 (by rw[hK6];omega) (by simp only[List.length_cons];omega) rfl (by simp only[go_sem,Nat.reduceLT,Nat.reduceAdd,Nat.reduceSub,Nat.reduceEqDiff,Nat.reduceLeDiff,Int.reduceEq,Int.reduceBEq,Int.reduceBNe,Int.reduceNeg,UInt8.reduceToNat,Nat.reduceBEq,n5])) ?_
    rcases Classical.em (x.Attrs=[])with hE5|hE5
    ·have v5:x.Attrs.map TAttr.pv=(mkL ANz x.Attrs (K5)).1.map TAttr.pv:=by rw[hE5];rfl
     have u5:∀s o q r τ,tu s o q 2 ((mkL ANz x.Attrs (K5)).1.map TAttr.pv) r τ=τ:=by rw[hE5];intros;rfl
     have hN5:=hN4
     rw[v5]at hN5
     have hM6:=hM5
     rw[v5]at hM6
     simp only[v5]
     simp only[u5]
     have c6:=hN5.cell
     simp only[AOz]at c6
     rw[hs']at hN5 hM6
     simp only[go_sem,Nat.reduceLT,Nat.reduceAdd,Nat.reduceSub,Nat.reduceEqDiff,Nat.reduceLeDiff,Int.reduceEq,Int.reduceBEq,Int.reduceBNe,Int.reduceNeg,UInt8.reduceToNat,Nat.reduceBEq,h1,hlen,hcell,hg,hK,hw,List.length_set,w0,w1,w2,c1,c2,c3,c4,v3,hK4,c5,v4,hK5,c6,v5,hK6,hs']
     exact finE _ rfl ⟨hN5,fun h=>absurd h (Nat.succ_ne_zero _),fun _=>hM6⟩
    ·have u5:∀s o q r τ,tu s o q 2 (x.Attrs.map TAttr.pv) r τ=modS s o q (AHz 2 r) false τ:=fun s o q r τ=>Bnz (by simpa using hE5)
     have hN5:=hN4.nest hrow5 (j:=5) rfl (r:=(mkL ANz x.Attrs (K5)).1.map TAttr.pv) (by simp only[List.length_map,AQz])
     simp only[List.set_set,List.set_cons_succ,List.set_cons_zero]at hN5
     have hM6:=hM5.nest hrow5 (j:=5) rfl (r:=(mkL ANz x.Attrs (K5)).1.map TAttr.pv) (by simp only[List.length_map,AQz])
     simp only[List.set_set,List.set_cons_succ,List.set_cons_zero]at hM6
     simp only[u5]
     have c6:=hN5.cell
     simp only[AOz]at c6
     rw[hs']at hN5 hM6
     simp only[go_sem,Nat.reduceLT,Nat.reduceAdd,Nat.reduceSub,Nat.reduceEqDiff,Nat.reduceLeDiff,Int.reduceEq,Int.reduceBEq,Int.reduceBNe,Int.reduceNeg,UInt8.reduceToNat,Nat.reduceBEq,h1,hlen,hcell,hg,hK,hw,List.length_set,w0,w1,w2,c1,c2,c3,c4,v3,hK4,c5,v4,hK5,c6,hrow5,hK6,AQz,List.length_map,hs']
     exact finE _ rfl ⟨hN5,fun h=>absurd h (Nat.succ_ne_zero _),fun _=>hM6⟩
   ·have u4:∀s o q r τ,tu s o q 2 (x.Ents.map TEnt.pv) r τ=modS s o q (AHz 2 r) false τ:=fun s o q r τ=>Bnz (by simpa using hE4)
    have hN4:=hN3.nest hrow4 (j:=4) rfl (r:=(mkL mEnt x.Ents (K4)).1.map TEnt.pv) (by simp only[List.length_map,AQz])
    simp only[List.set_set,List.set_cons_succ,List.set_cons_zero]at hN4
    have hM5:=hM4.nest hrow4 (j:=4) rfl (r:=(mkL mEnt x.Ents (K4)).1.map TEnt.pv) (by simp only[List.length_map,AQz])
    simp only[List.set_set,List.set_cons_succ,List.set_cons_zero]at hM5
    simp only[u4]
    have c5:=hN4.cell
    simp only[AOz]at c5
    have hrow5:((mkR Afz TInode.ov l k j).set j [.i .i64 ((K0:Nat):Int),.i .i64 ((K0+1:Nat):Int),.i .i64 ((K0+1+1:Nat):Int),.o 1 ((mkL mB x.Data (K0+1+1+1)).1.map bpv),.o 2 ((mkL mEnt x.Ents (K4)).1.map TEnt.pv),.o 2 (x.Attrs.map TAttr.pv)])[j]? =some [.i .i64 ((K0:Nat):Int),.i .i64 ((K0+1:Nat):Int),.i .i64 ((K0+1+1:Nat):Int),.o 1 ((mkL mB x.Data (K0+1+1+1)).1.map bpv),.o 2 ((mkL mEnt x.Ents (K4)).1.map TEnt.pv),.o 2 (x.Attrs.map TAttr.pv)]:=by rw[List.getElem?_set_self (by rw[hlen];exact hj)]
    have n5:=hN4.sub hrow5 (j:=5) rfl
    simp only[AOz]at n5
    simp only[go_sem,Nat.reduceLT,Nat.reduceAdd,Nat.reduceSub,Nat.reduceEqDiff,Nat.reduceLeDiff,Int.reduceEq,Int.reduceBEq,Int.reduceBNe,Int.reduceNeg,UInt8.reduceToNat,Nat.reduceBEq,h1,hlen,hcell,hg,hK,hw,List.length_set,w0,w1,w2,c1,c2,c3,c4,v3,hK4,c5,hrow4,hK5,AQz,List.length_map]
    refine Auz (CSz m (hd0 (by decide)) _ _ _ _ _ x.Attrs hox.Attrs.1 (K5) hox.Attrs.2 (by rw[hK6];omega) (by simp only[List.length_cons];omega) rfl (by simp only[go_sem,Nat.reduceLT,Nat.reduceAdd,Nat.reduceSub,Nat.reduceEqDiff,Nat.reduceLeDiff,Int.reduceEq,Int.reduceBEq,Int.reduceBNe,Int.reduceNeg,UInt8.reduceToNat,Nat.reduceBEq,n5])) ?_
    rcases Classical.em (x.Attrs=[])with hE5|hE5
    ·have v5:x.Attrs.map TAttr.pv=(mkL ANz x.Attrs (K5)).1.map TAttr.pv:=by rw[hE5];rfl
     have u5:∀s o q r τ,tu s o q 2 ((mkL ANz x.Attrs (K5)).1.map TAttr.pv) r τ=τ:=by rw[hE5];intros;rfl
     have hN5:=hN4
     rw[v5]at hN5
     have hM6:=hM5
     rw[v5]at hM6
     simp only[v5]
     simp only[u5]
     have c6:=hN5.cell
     simp only[AOz]at c6
     rw[hs']at hN5 hM6
     simp only[go_sem,Nat.reduceLT,Nat.reduceAdd,Nat.reduceSub,Nat.reduceEqDiff,Nat.reduceLeDiff,Int.reduceEq,Int.reduceBEq,Int.reduceBNe,Int.reduceNeg,UInt8.reduceToNat,Nat.reduceBEq,h1,hlen,hcell,hg,hK,hw,List.length_set,w0,w1,w2,c1,c2,c3,c4,v3,hK4,c5,hrow4,hK5,AQz,List.length_map,c6,v5,hK6,hs']
     exact finE _ rfl ⟨hN5,fun h=>absurd h (Nat.succ_ne_zero _),fun _=>hM6⟩
    ·have u5:∀s o q r τ,tu s o q 2 (x.Attrs.map TAttr.pv) r τ=modS s o q (AHz 2 r) false τ:=fun s o q r τ=>Bnz (by simpa using hE5)
     have hN5:=hN4.nest hrow5 (j:=5) rfl (r:=(mkL ANz x.Attrs (K5)).1.map TAttr.pv) (by simp only[List.length_map,AQz])
     simp only[List.set_set,List.set_cons_succ,List.set_cons_zero]at hN5
     have hM6:=hM5.nest hrow5 (j:=5) rfl (r:=(mkL ANz x.Attrs (K5)).1.map TAttr.pv) (by simp only[List.length_map,AQz])
     simp only[List.set_set,List.set_cons_succ,List.set_cons_zero]at hM6
     simp only[u5]
     have c6:=hN5.cell
     simp only[AOz]at c6
     rw[hs']at hN5 hM6
     simp only[go_sem,Nat.reduceLT,Nat.reduceAdd,Nat.reduceSub,Nat.reduceEqDiff,Nat.reduceLeDiff,Int.reduceEq,Int.reduceBEq,Int.reduceBNe,Int.reduceNeg,UInt8.reduceToNat,Nat.reduceBEq,h1,hlen,hcell,hg,hK,hw,List.length_set,w0,w1,w2,c1,c2,c3,c4,v3,hK4,c5,hrow4,hK5,AQz,List.length_map,c6,hrow5,hK6,AQz,List.length_map,hs']
     exact finE _ rfl ⟨hN5,fun h=>absurd h (Nat.succ_ne_zero _),fun _=>hM6⟩
  ·have u3:∀s o q r τ,tu s o q 1 (x.Data.map bpv) r τ=modS s o q (AHz 1 r) false τ:=fun s o q r τ=>Bnz (by simpa using hE3)
   have hN3:=hW3.nest hrow3 (j:=3) rfl (r:=(mkL mB x.Data (K0+1+1+1)).1.map bpv) (by simp only[List.length_map,AQz])
   simp only[List.set_set,List.set_cons_succ,List.set_cons_zero]at hN3
   have hM4:=hM3.nest hrow3 (j:=3) rfl (r:=(mkL mB x.Data (K0+1+1+1)).1.map bpv) (by simp only[List.length_map,AQz])
   simp only[List.set_set,List.set_cons_succ,List.set_cons_zero]at hM4
   simp only[u3]
   have c4:=hN3.cell
   simp only[AOz]at c4
   have hrow4:((mkR Afz TInode.ov l k j).set j [.i .i64 ((K0:Nat):Int),.i .i64 ((K0+1:Nat):Int),.i .i64 ((K0+1+1:Nat):Int),.o 1 ((mkL mB x.Data (K0+1+1+1)).1.map bpv),.o 2 (x.Ents.map TEnt.pv),.o 2 (x.Attrs.map TAttr.pv)])[j]? =some [.i .i64 ((K0:Nat):Int),.i .i64 ((K0+1:Nat):Int),.i .i64 ((K0+1+1:Nat):Int),.o 1 ((mkL mB x.Data (K0+1+1+1)).1.map bpv),.o 2 (x.Ents.map TEnt.pv),.o 2 (x.Attrs.map TAttr.pv)]:=by rw[List.getElem?_set_self (by rw[hlen];exact hj)]
   have n4:=hN3.sub hrow4 (j:=4) rfl
   simp only[AOz]at n4
   simp only[go_sem,Nat.reduceLT,Nat.reduceAdd,Nat.reduceSub,Nat.reduceEqDiff,Nat.reduceLeDiff,Int.reduceEq,Int.reduceBEq,Int.reduceBNe,Int.reduceNeg,UInt8.reduceToNat,Nat.reduceBEq,h1,hlen,hcell,hg,hK,hw,List.length_set,w0,w1,w2,c1,c2,c3,c4,hrow3,hK4,AQz,List.length_map]
   refine Auz (Idz m (hd0 (by decide)) _ _ _ _ _ x.Ents hox.Ents.1 (K4) hox.Ents.2 (by rw[hK5];omega) (by simp only[List.length_cons];omega) rfl (by simp only[go_sem,Nat.reduceLT,Nat.reduceAdd,Nat.reduceSub,Nat.reduceEqDiff,Nat.reduceLeDiff,Int.reduceEq,Int.reduceBEq,Int.reduceBNe,Int.reduceNeg,UInt8.reduceToNat,Nat.reduceBEq,n4])) ?_
   rcases Classical.em (x.Ents=[])with hE4|hE4
   ·have v4:x.Ents.map TEnt.pv=(mkL mEnt x.Ents (K4)).1.map TEnt.pv:=by rw[hE4];rfl
    have u4:∀s o q r τ,tu s o q 2 ((mkL mEnt x.Ents (K4)).1.map TEnt.pv) r τ=τ:=by rw[hE4];intros;rfl
    have hN4:=hN3
    rw[v4]at hN4
    have hM5:=hM4
    rw[v4]at hM5
    simp only[v4]
    simp only[u4]
    have c5:=hN4.cell
    simp only[AOz]at c5
    have hrow5:((mkR Afz TInode.ov l k j).set j [.i .i64 ((K0:Nat):Int),.i .i64 ((K0+1:Nat):Int),.i .i64 ((K0+1+1:Nat):Int),.o 1 ((mkL mB x.Data (K0+1+1+1)).1.map bpv),.o 2 ((mkL mEnt x.Ents (K4)).1.map TEnt.pv),.o 2 (x.Attrs.map TAttr.pv)])[j]? =some [.i .i64 ((K0:Nat):Int),.i .i64 ((K0+1:Nat):Int),.i .i64 ((K0+1+1:Nat):Int),.o 1 ((mkL mB x.Data (K0+1+1+1)).1.map bpv),.o 2 ((mkL mEnt x.Ents (K4)).1.map TEnt.pv),.o 2 (x.Attrs.map TAttr.pv)]:=by rw[List.getElem?_set_self (by rw[hlen];exact hj)]
    have n5:=hN4.sub hrow5 (j:=5) rfl
    simp only[AOz]at n5
    simp only[go_sem,Nat.reduceLT,Nat.reduceAdd,Nat.reduceSub,Nat.reduceEqDiff,Nat.reduceLeDiff,Int.reduceEq,Int.reduceBEq,Int.reduceBNe,Int.reduceNeg,UInt8.reduceToNat,Nat.reduceBEq,h1,hlen,hcell,hg,hK,hw,List.length_set,w0,w1,w2,c1,c2,c3,c4,hrow3,hK4,AQz,List.length_map,c5,v4,hK5]
    refine Auz (CSz m (hd0 (by decide)) _ _ _ _ _ x.Attrs hox.Attrs.1 (K5) hox.Attrs.2 (by rw[hK6];omega) (by simp only[List.length_cons];omega) rfl (by simp only[go_sem,Nat.reduceLT,Nat.reduceAdd,Nat.reduceSub,Nat.reduceEqDiff,Nat.reduceLeDiff,Int.reduceEq,Int.reduceBEq,Int.reduceBNe,Int.reduceNeg,UInt8.reduceToNat,Nat.reduceBEq,n5])) ?_
    rcases Classical.em (x.Attrs=[])with hE5|hE5
    ·have v5:x.Attrs.map TAttr.pv=(mkL ANz x.Attrs (K5)).1.map TAttr.pv:=by rw[hE5];rfl
     have u5:∀s o q r τ,tu s o q 2 ((mkL ANz x.Attrs (K5)).1.map TAttr.pv) r τ=τ:=by rw[hE5];intros;rfl
     have hN5:=hN4
     rw[v5]at hN5
     have hM6:=hM5
     rw[v5]at hM6
     simp only[v5]
     simp only[u5]
     have c6:=hN5.cell
     simp only[AOz]at c6
     rw[hs']at hN5 hM6
     simp only[go_sem,Nat.reduceLT,Nat.reduceAdd,Nat.reduceSub,Nat.reduceEqDiff,Nat.reduceLeDiff,Int.reduceEq,Int.reduceBEq,Int.reduceBNe,Int.reduceNeg,UInt8.reduceToNat,Nat.reduceBEq,h1,hlen,hcell,hg,hK,hw,List.length_set,w0,w1,w2,c1,c2,c3,c4,hrow3,hK4,AQz,List.length_map,c5,v4,hK5,c6,v5,hK6,hs']
     exact finE _ rfl ⟨hN5,fun h=>absurd h (Nat.succ_ne_zero _),fun _=>hM6⟩
    ·have u5:∀s o q r τ,tu s o q 2 (x.Attrs.map TAttr.pv) r τ=modS s o q (AHz 2 r) false τ:=fun s o q r τ=>Bnz (by simpa using hE5)
     have hN5:=hN4.nest hrow5 (j:=5) rfl (r:=(mkL ANz x.Attrs (K5)).1.map TAttr.pv) (by simp only[List.length_map,AQz])
     simp only[List.set_set,List.set_cons_succ,List.set_cons_zero]at hN5
     have hM6:=hM5.nest hrow5 (j:=5) rfl (r:=(mkL ANz x.Attrs (K5)).1.map TAttr.pv) (by simp only[List.length_map,AQz])
     simp only[List.set_set,List.set_cons_succ,List.set_cons_zero]at hM6
     simp only[u5]
     have c6:=hN5.cell
     simp only[AOz]at c6
     rw[hs']at hN5 hM6
     simp only[go_sem,Nat.reduceLT,Nat.reduceAdd,Nat.reduceSub,Nat.reduceEqDiff,Nat.reduceLeDiff,Int.reduceEq,Int.reduceBEq,Int.reduceBNe,Int.reduceNeg,UInt8.reduceToNat,Nat.reduceBEq,h1,hlen,hcell,hg,hK,hw,List.length_set,w0,w1,w2,c1,c2,c3,c4,hrow3,hK4,AQz,List.length_map,c5,v4,hK5,c6,hrow5,hK6,AQz,List.length_map,hs']
     exact finE _ rfl ⟨hN5,fun h=>absurd h (Nat.succ_ne_zero _),fun _=>hM6⟩
   ·have u4:∀s o q r τ,tu s o q 2 (x.Ents.map TEnt.pv) r τ=modS s o q (AHz 2 r) false τ:=fun s o q r τ=>Bnz (by simpa using hE4)
    have hN4:=hN3.nest hrow4 (j:=4) rfl (r:=(mkL mEnt x.Ents (K4)).1.map TEnt.pv) (by simp only[List.length_map,AQz])
    simp only[List.set_set,List.set_cons_succ,List.set_cons_zero]at hN4
    have hM5:=hM4.nest hrow4 (j:=4) rfl (r:=(mkL mEnt x.Ents (K4)).1.map TEnt.pv) (by simp only[List.length_map,AQz])
    simp only[List.set_set,List.set_cons_succ,List.set_cons_zero]at hM5
    simp only[u4]
    have c5:=hN4.cell
    simp only[AOz]at c5
    have hrow5:((mkR Afz TInode.ov l k j).set j [.i .i64 ((K0:Nat):Int),.i .i64 ((K0+1:Nat):Int),.i .i64 ((K0+1+1:Nat):Int),.o 1 ((mkL mB x.Data (K0+1+1+1)).1.map bpv),.o 2 ((mkL mEnt x.Ents (K4)).1.map TEnt.pv),.o 2 (x.Attrs.map TAttr.pv)])[j]? =some [.i .i64 ((K0:Nat):Int),.i .i64 ((K0+1:Nat):Int),.i .i64 ((K0+1+1:Nat):Int),.o 1 ((mkL mB x.Data (K0+1+1+1)).1.map bpv),.o 2 ((mkL mEnt x.Ents (K4)).1.map TEnt.pv),.o 2 (x.Attrs.map TAttr.pv)]:=by rw[List.getElem?_set_self (by rw[hlen];exact hj)]
    have n5:=hN4.sub hrow5 (j:=5) rfl
    simp only[AOz]at n5
    simp only[go_sem,Nat.reduceLT,Nat.reduceAdd,Nat.reduceSub,Nat.reduceEqDiff,Nat.reduceLeDiff,Int.reduceEq,Int.reduceBEq,Int.reduceBNe,Int.reduceNeg,UInt8.reduceToNat,Nat.reduceBEq,h1,hlen,hcell,hg,hK,hw,List.length_set,w0,w1,w2,c1,c2,c3,c4,hrow3,hK4,AQz,List.length_map,c5,hrow4,hK5,AQz,List.length_map]
    refine Auz (CSz m (hd0 (by decide)) _ _ _ _ _ x.Attrs hox.Attrs.1 (K5) hox.Attrs.2 (by rw[hK6];omega) (by simp only[List.length_cons];omega) rfl (by simp only[go_sem,Nat.reduceLT,Nat.reduceAdd,Nat.reduceSub,Nat.reduceEqDiff,Nat.reduceLeDiff,Int.reduceEq,Int.reduceBEq,Int.reduceBNe,Int.reduceNeg,UInt8.reduceToNat,Nat.reduceBEq,n5])) ?_
    rcases Classical.em (x.Attrs=[])with hE5|hE5
    ·have v5:x.Attrs.map TAttr.pv=(mkL ANz x.Attrs (K5)).1.map TAttr.pv:=by rw[hE5];rfl
     have u5:∀s o q r τ,tu s o q 2 ((mkL ANz x.Attrs (K5)).1.map TAttr.pv) r τ=τ:=by rw[hE5];intros;rfl
     have hN5:=hN4
     rw[v5]at hN5
     have hM6:=hM5
     rw[v5]at hM6
     simp only[v5]
     simp only[u5]
     have c6:=hN5.cell
     simp only[AOz]at c6
     rw[hs']at hN5 hM6
     simp only[go_sem,Nat.reduceLT,Nat.reduceAdd,Nat.reduceSub,Nat.reduceEqDiff,Nat.reduceLeDiff,Int.reduceEq,Int.reduceBEq,Int.reduceBNe,Int.reduceNeg,UInt8.reduceToNat,Nat.reduceBEq,h1,hlen,hcell,hg,hK,hw,List.length_set,w0,w1,w2,c1,c2,c3,c4,hrow3,hK4,AQz,List.length_map,c5,hrow4,hK5,AQz,List.length_map,c6,v5,hK6,hs']
     exact finE _ rfl ⟨hN5,fun h=>absurd h (Nat.succ_ne_zero _),fun _=>hM6⟩
    ·have u5:∀s o q r τ,tu s o q 2 (x.Attrs.map TAttr.pv) r τ=modS s o q (AHz 2 r) false τ:=fun s o q r τ=>Bnz (by simpa using hE5)
     have hN5:=hN4.nest hrow5 (j:=5) rfl (r:=(mkL ANz x.Attrs (K5)).1.map TAttr.pv) (by simp only[List.length_map,AQz])
     simp only[List.set_set,List.set_cons_succ,List.set_cons_zero]at hN5
     have hM6:=hM5.nest hrow5 (j:=5) rfl (r:=(mkL ANz x.Attrs (K5)).1.map TAttr.pv) (by simp only[List.length_map,AQz])
     simp only[List.set_set,List.set_cons_succ,List.set_cons_zero]at hM6
     simp only[u5]
     have c6:=hN5.cell
     simp only[AOz]at c6
     rw[hs']at hN5 hM6
     simp only[go_sem,Nat.reduceLT,Nat.reduceAdd,Nat.reduceSub,Nat.reduceEqDiff,Nat.reduceLeDiff,Int.reduceEq,Int.reduceBEq,Int.reduceBNe,Int.reduceNeg,UInt8.reduceToNat,Nat.reduceBEq,h1,hlen,hcell,hg,hK,hw,List.length_set,w0,w1,w2,c1,c2,c3,c4,hrow3,hK4,AQz,List.length_map,c5,hrow4,hK5,AQz,List.length_map,c6,hrow5,hK6,AQz,List.length_map,hs']
     exact finE _ rfl ⟨hN5,fun h=>absurd h (Nat.succ_ne_zero _),fun _=>hM6⟩
 ·have hlen:=BTz (f:=Afz) (pv:=TInode.ov) (l:=l) (k:=k) (Nat.le_refl _)
  have he:=hI.end (r0:=l.map TInode.ov) (by simp)
  simp only[go_sem,Nat.reduceLT,Nat.reduceAdd,Nat.reduceSub,Nat.reduceEqDiff,Nat.reduceLeDiff,Int.reduceEq,Int.reduceBEq,Int.reduceBNe,Int.reduceNeg,UInt8.reduceToNat,Nat.reduceBEq,hlen,List.take_length]
  refine Auz (A8z (σ:=σk) ⟨by simp,rfl⟩ (by rw[hI.1.len];exact hd) hI.1.pl (by decide) rfl) ?_
  rw[he,FOz]
  rfl
set_option maxHeartbeats 4000000 in
theorem GYz (n:Nat) (hn:Big+2≤n) (d s o:Nat) (q:Path) (σ:St) (l:List ByteArray) (ho:∀y∈l,okS y) (k:Nat) (hl:l.length≤Bd) (hk:(mkL mS l k).2≤4611686018427387904) (hd:d<σ.length) (hp:plain (σ.getD d .undef)=true)
  (hc:(AAz σ s o).atQ q=some (false,1,l.map spv)):icall env n 55 d σ [.c .one [.br s o q 0 0 false 1 (l.map spv)],.c .one [.sh false (.i .i64 ((k:Nat):Int))]]=some ((tu s o q 1 (l.map spv) ((mkL mS l k).1.map spv) σ).set d (.c .one [.sh false (.i .i64 (((mkL mS l k).2:Nat):Int))]),.c .one [.sh false (.i .i64 (((mkL mS l k).2:Nat):Int))]):=by
 refine E0z (fn:=Tryz.f55) (d0:=1) hn rfl rfl (Nat.le_of_ble_eq_true rfl) fun m hd0=> ?_
 unfold Tryz.f55
 have hb:Bd=1048576:=rfl
 have hT:=fun k hk=>Chz m (hd0 (by decide)) k hk
 simp only[go_sem,Nat.reduceLT,Nat.reduceAdd,Nat.reduceSub,Nat.reduceEqDiff,Nat.reduceLeDiff,Int.reduceEq,Int.reduceBEq,Int.reduceBNe,Int.reduceNeg,UInt8.reduceToNat,Nat.reduceBEq]
 refine GPz l.length (fun j σk=>slots 20 [(0,.c .one [.br (s+20) o q 0 0 false 1 (mkR mS spv l k j)]),(1,.c .one [.sh false (.i .i64 (((mkL mS (l.take j) k).2:Nat):Int))]),(5,.c .one [.sh false (.i .i64 ((j:Nat):Int))])]++upSt 20 σk) (Rnd s o q 1 d σ (mkR mS spv l k)) (hd0 (Nat.zero_le _)) (by omega) ?_ (fun j σk hj h1 hw hI=> ?_) (fun σk hI=> ?_)
 ·simp only[go_sem,Nat.reduceLT,Nat.reduceAdd,Nat.reduceSub,Nat.reduceEqDiff,Nat.reduceLeDiff,Int.reduceEq,Int.reduceBEq,Int.reduceBNe,Int.reduceNeg,UInt8.reduceToNat,Nat.reduceBEq]
  exact finE σ (by rw[CEz];rfl) ⟨.refl (by rw[CEz];exact hc) hp,fun _=>rfl,fun h=>absurd h (Nat.lt_irrefl _)⟩
 ·have hx:l[j]? =some l[j]:=List.getElem?_eq_getElem hj
  have hox:=ho _ (List.getElem_mem hj)
  generalize l[j]=x at hx hox
  have hW:=hI.1
  have hcell:=hW.cell
  have hg:=FNz (f:=mS) (pv:=spv) (k:=k) hx
  have hlen:=BTz (f:=mS) (pv:=spv) (k:=k) (Nat.le_of_lt hj)
  have hm:=(Bwz (f:=mS) Lez (l:=l) (k:=k) (j:=j+1)).2
  have ht:(mkL mS (l.take (j+1)) k).2=(mS x (mkL mS (l.take j) k).2).2:=by rw[CFz hx]
  have hs:∀p,p=spv (mS x (mkL mS (l.take j) k).2).1→(mkR mS spv l k j).set j p=mkR mS spv l k (j+1):=fun p hp=>FMz hx hp
  have hr:(mkR mS spv l k (j+1)).length=(mkR mS spv l k j).length:=by rw[hlen,BTz hj]
  obtain⟨K0,hK⟩:∃K,(mkL mS (l.take j) k).2=K:=⟨_,rfl⟩
  rw[hK]at hs ht
  have ht':(mkL mS (l.take (j+1)) k).2=K0+1:=ht
  have w1:IntKind.i64.wrap ((K0:Int)+1)=(((mkL mS (l.take (j+1)) k).2:Nat):Int):=by rw[ht',AYz (by omega) (by omega)];omega
  have hs':=hs _ rfl
  simp only[mS,spv]at hs'
  have t1:=hT K0 (by omega)
  simp only[go_sem,Nat.reduceLT,Nat.reduceAdd,Nat.reduceSub,Nat.reduceEqDiff,Nat.reduceLeDiff,Int.reduceEq,Int.reduceBEq,Int.reduceBNe,Int.reduceNeg,UInt8.reduceToNat,Nat.reduceBEq,h1,hlen,hcell,hg,hK,w1,hw,hs',t1]
  exact finE _ rfl ⟨hW.store hr,fun h=>absurd h (Nat.succ_ne_zero _),fun _=>hW.nrm hr⟩
 ·have hlen:=BTz (f:=mS) (pv:=spv) (l:=l) (k:=k) (Nat.le_refl _)
  have he:=hI.end (r0:=l.map spv) (by simp)
  simp only[go_sem,Nat.reduceLT,Nat.reduceAdd,Nat.reduceSub,Nat.reduceEqDiff,Nat.reduceLeDiff,Int.reduceEq,Int.reduceBEq,Int.reduceBNe,Int.reduceNeg,UInt8.reduceToNat,Nat.reduceBEq,hlen,List.take_length]
  refine Auz (A8z (σ:=σk) ⟨by simp,rfl⟩ (by rw[hI.1.len];exact hd) hI.1.pl (by decide) rfl) ?_
  rw[he,FOz]
  rfl
set_option maxHeartbeats 4000000 in
theorem Hwz (n:Nat) (hn:Big+2≤n) (l:List TAttr) (ho:∀y∈l,TAttr.ok y) (k:Nat) (hl:l.length≤Bd) (hk:(mkL ANz l k).2≤4611686018427387904):pcall env n 57 [.c .one [.sh true (.s 2 ((mkL ANz l k).1.map TAttr.pv))],.c .one [.sh false (.i .i64 ((k:Nat):Int))]] []=some ⟨.c .one [.sh false (.i .i64 (((mkL ANz l k).2:Nat):Int))],[]⟩:=by
 refine walk (fn:=Tryz.f57) (d:=1) hn rfl rfl rfl (Nat.le_of_ble_eq_true rfl) fun m hd0=> ?_
 unfold Tryz.f57
 have hb:Bd=1048576:=rfl
 have hT:=fun k hk=>Chz m (hd0 (by decide)) k hk
 simp only[go_sem,Nat.reduceLT,Nat.reduceAdd,Nat.reduceSub,Nat.reduceEqDiff,Nat.reduceLeDiff,Int.reduceEq,Int.reduceBEq,Int.reduceBNe,Int.reduceNeg,UInt8.reduceToNat,Nat.reduceBEq]
 refine B5z l (fun j=>slots 33 [(0,.c .one [.sh true (.s 2 ((mkL ANz l k).1.map TAttr.pv))]),(1,.c .one [.sh false (.i .i64 (((mkL ANz (l.take j) k).2:Nat):Int))]),(5,.c .one [.sh false (.i .i64 ((j:Nat):Int))])]) (fun _=>True) (hd0 (Nat.zero_le _)) (by omega) ?_ (fun j x hx hm hj h1 hw _=> ?_) (fun _=> ?_)
 ·simp only[go_sem,Nat.reduceLT,Nat.reduceAdd,Nat.reduceSub,Nat.reduceEqDiff,Nat.reduceLeDiff,Int.reduceEq,Int.reduceBEq,Int.reduceBNe,Int.reduceNeg,UInt8.reduceToNat,Nat.reduceBEq];exact fin' rfl
 ·have hox:=ho _ hm
  have hg:=GXz (f:=ANz) (k:=k) hx
  have hle:=(Bwz (f:=ANz) C3z (l:=l) (k:=k) (j:=j+1)).2
  have ht:(mkL ANz (l.take (j+1)) k).2=(ANz x (mkL ANz (l.take j) k).2).2:=by rw[CFz hx]
  obtain⟨K0,hK⟩:∃K,(mkL ANz (l.take j) k).2=K:=⟨_,rfl⟩
  rw[hK]at hg ht
  have ht':(mkL ANz (l.take (j+1)) k).2=K0+1+1:=by rw[ht];simp only[ANz]
  have w0:IntKind.i64.wrap (((K0:Nat):Int)+1)=((K0+1:Nat):Int):=by rw[AYz (by omega) (by omega)];omega
  have t0:=hT (K0) (by omega)
  have w1:IntKind.i64.wrap (((K0+1:Nat):Int)+1)=(((mkL ANz (l.take (j+1)) k).2:Nat):Int):=by rw[ht'];rw[AYz (by omega) (by omega)];omega
  have t1:=hT (K0+1) (by omega)
  simp only[go_sem,Nat.reduceLT,Nat.reduceAdd,Nat.reduceSub,Nat.reduceEqDiff,Nat.reduceLeDiff,Int.reduceEq,Int.reduceBEq,Int.reduceBNe,Int.reduceNeg,UInt8.reduceToNat,Nat.reduceBEq,h1,hg,hK,hw,AQz,List.length_map,w0,t0,w1,t1,ANz]
  exact chk (by kernel_rfl) (chk (by kernel_rfl) (fin' rfl))
 ·simp only[go_sem,Nat.reduceLT,Nat.reduceAdd,Nat.reduceSub,Nat.reduceEqDiff,Nat.reduceLeDiff,Int.reduceEq,Int.reduceBEq,Int.reduceBNe,Int.reduceNeg,UInt8.reduceToNat,Nat.reduceBEq,AQz,List.length_map,List.take_length]
set_option maxHeartbeats 4000000 in
theorem Mlz (n:Nat) (hn:Big+1≤n) (l:List UInt8) (ho:∀y∈l,okB y) (k:Nat) (hl:l.length≤Bd) (hk:(mkL mB l k).2≤4611686018427387904):pcall env n 25 [.c .one [.sh true (.s 1 ((mkL mB l k).1.map bpv))],.c .one [.sh false (.i .i64 ((k:Nat):Int))]] []=some ⟨.c .one [.sh false (.i .i64 (((mkL mB l k).2:Nat):Int))],[]⟩:=by
 refine walk (fn:=Tryz.f25) (d:=0) hn rfl rfl rfl (Nat.le_of_ble_eq_true rfl) fun m hd0=> ?_
 unfold Tryz.f25
 have hb:Bd=1048576:=rfl
 simp only[go_sem,Nat.reduceLT,Nat.reduceAdd,Nat.reduceSub,Nat.reduceEqDiff,Nat.reduceLeDiff,Int.reduceEq,Int.reduceBEq,Int.reduceBNe,Int.reduceNeg,UInt8.reduceToNat,Nat.reduceBEq]
 refine B5z l (fun j=>slots 22 [(0,.c .one [.sh true (.s 1 ((mkL mB l k).1.map bpv))]),(1,.c .one [.sh false (.i .i64 (((mkL mB (l.take j) k).2:Nat):Int))]),(5,.c .one [.sh false (.i .i64 ((j:Nat):Int))])]) (fun _=>True) (hd0 (Nat.zero_le _)) (by omega) ?_ (fun j x hx hm hj h1 hw _=> ?_) (fun _=> ?_)
 ·simp only[go_sem,Nat.reduceLT,Nat.reduceAdd,Nat.reduceSub,Nat.reduceEqDiff,Nat.reduceLeDiff,Int.reduceEq,Int.reduceBEq,Int.reduceBNe,Int.reduceNeg,UInt8.reduceToNat,Nat.reduceBEq];exact fin' rfl
 ·have hox:=ho _ hm
  have hg:=GXz (f:=mB) (k:=k) hx
  have hle:=(Bwz (f:=mB) Gvz (l:=l) (k:=k) (j:=j+1)).2
  have ht:(mkL mB (l.take (j+1)) k).2=(mB x (mkL mB (l.take j) k).2).2:=by rw[CFz hx]
  obtain⟨K0,hK⟩:∃K,(mkL mB (l.take j) k).2=K:=⟨_,rfl⟩
  rw[hK]at hg ht
  have ht':(mkL mB (l.take (j+1)) k).2=K0+1:=by rw[ht];simp only[mB]
  simp only[mB,mB]at hg
  have w0:IntKind.i64.wrap (((K0:Nat):Int)+1)=(((mkL mB (l.take (j+1)) k).2:Nat):Int):=by rw[ht'];rw[AYz (by omega) (by omega)];omega
  simp only[go_sem,Nat.reduceLT,Nat.reduceAdd,Nat.reduceSub,Nat.reduceEqDiff,Nat.reduceLeDiff,Int.reduceEq,Int.reduceBEq,Int.reduceBNe,Int.reduceNeg,UInt8.reduceToNat,Nat.reduceBEq,h1,hg,hK,hw,AQz,List.length_map,w0,u8w]
  exact fin' rfl
 ·simp only[go_sem,Nat.reduceLT,Nat.reduceAdd,Nat.reduceSub,Nat.reduceEqDiff,Nat.reduceLeDiff,Int.reduceEq,Int.reduceBEq,Int.reduceBNe,Int.reduceNeg,UInt8.reduceToNat,Nat.reduceBEq,AQz,List.length_map,List.take_length]
set_option maxHeartbeats 4000000 in
theorem LZz (n:Nat) (hn:Big+3≤n) (l:List TEntry) (ho:∀y∈l,TEntry.ok y) (k:Nat) (hl:l.length≤Bd) (hk:(mkL ATz l k).2≤4611686018427387904):pcall env n 59 [.c .one [.sh true (.s 5 ((mkL ATz l k).1.map TEntry.pv))],.c .one [.sh false (.i .i64 ((k:Nat):Int))]] []=some ⟨.c .one [.sh false (.i .i64 (((mkL ATz l k).2:Nat):Int))],[]⟩:=by
 refine walk (fn:=Tryz.f59) (d:=2) hn rfl rfl rfl (Nat.le_of_ble_eq_true rfl) fun m hd0=> ?_
 unfold Tryz.f59
 have hb:Bd=1048576:=rfl
 have hT:=fun k hk=>Chz m (hd0 (by decide)) k hk
 simp only[go_sem,Nat.reduceLT,Nat.reduceAdd,Nat.reduceSub,Nat.reduceEqDiff,Nat.reduceLeDiff,Int.reduceEq,Int.reduceBEq,Int.reduceBNe,Int.reduceNeg,UInt8.reduceToNat,Nat.reduceBEq]
 refine B5z l (fun j=>slots 60 [(0,.c .one [.sh true (.s 5 ((mkL ATz l k).1.map TEntry.pv))]),(1,.c .one [.sh false (.i .i64 (((mkL ATz (l.take j) k).2:Nat):Int))]),(5,.c .one [.sh false (.i .i64 ((j:Nat):Int))])]) (fun _=>True) (hd0 (Nat.zero_le _)) (by omega) ?_ (fun j x hx hm hj h1 hw _=> ?_) (fun _=> ?_)
 ·simp only[go_sem,Nat.reduceLT,Nat.reduceAdd,Nat.reduceSub,Nat.reduceEqDiff,Nat.reduceLeDiff,Int.reduceEq,Int.reduceBEq,Int.reduceBNe,Int.reduceNeg,UInt8.reduceToNat,Nat.reduceBEq];exact fin' rfl
 ·have hox:=ho _ hm
  have hg:=GXz (f:=ATz) (k:=k) hx
  have hle:=(Bwz (f:=ATz) Fxz (l:=l) (k:=k) (j:=j+1)).2
  have ht:(mkL ATz (l.take (j+1)) k).2=(ATz x (mkL ATz (l.take j) k).2).2:=by rw[CFz hx]
  obtain⟨K0,hK⟩:∃K,(mkL ATz (l.take j) k).2=K:=⟨_,rfl⟩
  rw[hK]at hg ht
  obtain⟨K3,hK3⟩:∃K,(mkL mB x.Data (K0+1+1)).2=K:=⟨_,rfl⟩
  have ge2:=Btz Gvz (l:=x.Data) (k:=K0+1+1)
  rw[hK3]at ge2
  obtain⟨K4,hK4⟩:∃K,(mkL ANz x.Attrs (K3)).2=K:=⟨_,rfl⟩
  have ge3:=Btz C3z (l:=x.Attrs) (k:=K3)
  rw[hK4]at ge3
  have ht':(mkL ATz (l.take (j+1)) k).2=K4+1:=by rw[ht];simp only[ATz,hK3,hK4]
  have w0:IntKind.i64.wrap (((K0:Nat):Int)+1)=((K0+1:Nat):Int):=by rw[AYz (by omega) (by omega)];omega
  have t0:=hT (K0) (by omega)
  have w1:IntKind.i64.wrap (((K0+1:Nat):Int)+1)=((K0+1+1:Nat):Int):=by rw[AYz (by omega) (by omega)];omega
  have t2:=Mlz m (hd0 (by decide)) x.Data hox.Data.1 (K0+1+1) hox.Data.2 (by rw[hK3];omega)
  rw[hK3]at t2
  have t3:=Hwz m (hd0 (by decide)) x.Attrs hox.Attrs.1 (K3) hox.Attrs.2 (by rw[hK4];omega)
  rw[hK4]at t3
  have w4:IntKind.i64.wrap (((K4:Nat):Int)+1)=(((mkL ATz (l.take (j+1)) k).2:Nat):Int):=by rw[ht'];rw[AYz (by omega) (by omega)];omega
  have t4:=hT (K4) (by omega)
  simp only[go_sem,Nat.reduceLT,Nat.reduceAdd,Nat.reduceSub,Nat.reduceEqDiff,Nat.reduceLeDiff,Int.reduceEq,Int.reduceBEq,Int.reduceBNe,Int.reduceNeg,UInt8.reduceToNat,Nat.reduceBEq,h1,hg,hK,hw,AQz,List.length_map,w0,t0,w1,t2,t3,w4,t4,ATz,hK3,hK4]
  exact chk (by kernel_rfl) (chk (by kernel_rfl) (fin' rfl))
 ·simp only[go_sem,Nat.reduceLT,Nat.reduceAdd,Nat.reduceSub,Nat.reduceEqDiff,Nat.reduceLeDiff,Int.reduceEq,Int.reduceBEq,Int.reduceBNe,Int.reduceNeg,UInt8.reduceToNat,Nat.reduceBEq,AQz,List.length_map,List.take_length]
set_option maxHeartbeats 4000000 in
theorem Kaz (n:Nat) (hn:Big+2≤n) (l:List ByteArray) (ho:∀y∈l,okS y) (k:Nat) (hl:l.length≤Bd) (hk:(mkL mS l k).2≤4611686018427387904):pcall env n 58 [.c .one [.sh true (.s 1 ((mkL mS l k).1.map spv))],.c .one [.sh false (.i .i64 ((k:Nat):Int))]] []=some ⟨.c .one [.sh false (.i .i64 (((mkL mS l k).2:Nat):Int))],[]⟩:=by
 refine walk (fn:=Tryz.f58) (d:=1) hn rfl rfl rfl (Nat.le_of_ble_eq_true rfl) fun m hd0=> ?_
 unfold Tryz.f58
 have hb:Bd=1048576:=rfl
 have hT:=fun k hk=>Chz m (hd0 (by decide)) k hk
 simp only[go_sem,Nat.reduceLT,Nat.reduceAdd,Nat.reduceSub,Nat.reduceEqDiff,Nat.reduceLeDiff,Int.reduceEq,Int.reduceBEq,Int.reduceBNe,Int.reduceNeg,UInt8.reduceToNat,Nat.reduceBEq]
 refine B5z l (fun j=>slots 22 [(0,.c .one [.sh true (.s 1 ((mkL mS l k).1.map spv))]),(1,.c .one [.sh false (.i .i64 (((mkL mS (l.take j) k).2:Nat):Int))]),(5,.c .one [.sh false (.i .i64 ((j:Nat):Int))])]) (fun _=>True) (hd0 (Nat.zero_le _)) (by omega) ?_ (fun j x hx hm hj h1 hw _=> ?_) (fun _=> ?_)
 ·simp only[go_sem,Nat.reduceLT,Nat.reduceAdd,Nat.reduceSub,Nat.reduceEqDiff,Nat.reduceLeDiff,Int.reduceEq,Int.reduceBEq,Int.reduceBNe,Int.reduceNeg,UInt8.reduceToNat,Nat.reduceBEq];exact fin' rfl
 ·have hox:=ho _ hm
  have hg:=GXz (f:=mS) (k:=k) hx
  have hle:=(Bwz (f:=mS) Lez (l:=l) (k:=k) (j:=j+1)).2
  have ht:(mkL mS (l.take (j+1)) k).2=(mS x (mkL mS (l.take j) k).2).2:=by rw[CFz hx]
  obtain⟨K0,hK⟩:∃K,(mkL mS (l.take j) k).2=K:=⟨_,rfl⟩
  rw[hK]at hg ht
  have ht':(mkL mS (l.take (j+1)) k).2=K0+1:=by rw[ht];simp only[mS]
  simp only[mS,mS]at hg
  have w0:IntKind.i64.wrap (((K0:Nat):Int)+1)=(((mkL mS (l.take (j+1)) k).2:Nat):Int):=by rw[ht'];rw[AYz (by omega) (by omega)];omega
  have t0:=hT (K0) (by omega)
  simp only[go_sem,Nat.reduceLT,Nat.reduceAdd,Nat.reduceSub,Nat.reduceEqDiff,Nat.reduceLeDiff,Int.reduceEq,Int.reduceBEq,Int.reduceBNe,Int.reduceNeg,UInt8.reduceToNat,Nat.reduceBEq,h1,hg,hK,hw,AQz,List.length_map,w0,t0]
  exact chk (by kernel_rfl) (fin' rfl)
 ·simp only[go_sem,Nat.reduceLT,Nat.reduceAdd,Nat.reduceSub,Nat.reduceEqDiff,Nat.reduceLeDiff,Int.reduceEq,Int.reduceBEq,Int.reduceBNe,Int.reduceNeg,UInt8.reduceToNat,Nat.reduceBEq,AQz,List.length_map,List.take_length]
end Go.Proofs.YtblelojdboefjaaGreatDoor.R
