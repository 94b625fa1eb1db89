/- What a tree takes up: both programs count the same. -/
import Derived.Test.YtblelojdboefjaaGreatDoorQ9
import Derived.Test.YtblelojdboefjaaGreatDoorQ7
import Derived.Test.YtblelojdboefjaaGreatDoorQ8
set_option linter.all false
set_option maxRecDepth 100000
namespace Go.Proofs.YtblelojdboefjaaGreatDoor.R
open Go
def D5z:List TAttr→Nat
 |[]=>0
 |a::l=>a.Name.size+a.Val.size+D5z l
def inoU (x:TInode):Nat:=32+x.Data.length+D5z x.Attrs
def useU:List TInode→Nat
 |[]=>0
 |x::l=>inoU x+useU l
theorem K8z {l:List TAttr} {j:Nat} {a:TAttr} (h:l[j]? =some a):D5z (l.drop j)=a.Name.size+a.Val.size+D5z (l.drop (j+1)):=by rw[EZz h];rfl
theorem Llz {l:List TInode} {j:Nat} {x:TInode} (h:l[j]? =some x):useU (l.drop j)=32+x.Data.length+D5z x.Attrs+useU (l.drop (j+1)):=by rw[EZz h];rfl
theorem Ocz:∀{l:List TAttr},(∀a∈l,a.ok)→D5z l≤l.length*2097152
 |[],_=>Nat.zero_le _
 |a::l,h=>by
  have ih:=Ocz fun b hb=>h b (List.mem_cons_of_mem a hb)
  have o:=h a (by simp)
  have o1:=o.Name;have o2:=o.Val
  have hb:Bd=1048576:=rfl
  unfold okS at o1 o2
  simp only[D5z,List.length_cons]
  omega
theorem Vnz {x:TInode} (hx:x.ok):inoU x≤2199024304160:=by
 have h3:=hx.Data.2;have h4:=hx.Attrs.2
 have hb:Bd=1048576:=rfl
 have ha:=Ocz hx.Attrs.1
 unfold inoU
 omega
theorem PQz:∀{l:List TInode},(∀x∈l,x.ok)→useU l≤l.length*2199024304160
 |[],_=>Nat.zero_le _
 |a::l,h=>by
  have ih:=PQz fun b hb=>h b (List.mem_cons_of_mem a hb)
  have o:=Vnz (h a (by simp))
  simp only[useU,List.length_cons]
  omega
theorem PPz {t:TTab} (ht:t.ok):useU t.Inodes≤4611686018427387904:=by
 have h:=PQz ht.Inodes.1
 have h2:=ht.Inodes.2
 have hb:Bd=1048576:=rfl
 omega
theorem Euz {a b:Nat} (h:a+b≤9223372036854775807):IntKind.i64.wrap ((a:Int)+(b:Int))=((a+b:Nat):Int):=by
 rw[ARz (by omega) (by omega)];omega
theorem U7z {a:Nat} (h:a+32≤9223372036854775807):IntKind.i64.wrap ((a:Int)+32)=((a+32:Nat):Int):=by
 rw[ARz (by omega) (by omega)];omega
theorem TJz {a:Nat} (h:32+a≤9223372036854775807):IntKind.i64.wrap (32+(a:Int))=((32+a:Nat):Int):=by
 rw[ARz (by omega) (by omega)];omega
set_option maxHeartbeats 4000000 in
theorem Mqz (n:Nat) (hn:Big+2≤n) (t:TTab) (ht:t.ok):pcall env n 97 [.c .agg (t.pv.map AMz)] []=some ⟨pvSV (.i .i64 (useU t.Inodes:Nat)),[]⟩:=by
 obtain⟨m,rfl⟩:=AEz hn
 have hB:=ASz
 have hbd:Bd=1048576:=rfl
 have hU:=PPz ht
 obtain⟨ho,hlen⟩:=ht.Inodes
 refine ANz (ADz (fn:=Tryz.f97) rfl rfl rfl (Nat.le_of_ble_eq_true rfl) ?_)
 unfold Tryz.f97
 simp only[go_sem,seval]
 refine AFz (fun r σ=>∃i s:Nat,i≤t.Inodes.length∧r=t.Inodes.length - i∧s+useU (t.Inodes.drop i)=useU t.Inodes∧σ=slots 50 [(1,.c .box [.sh true (.s 6 (t.Inodes.map TInode.pv)),.sh false (.i .i64 t.Next)]),(3,.c .one [.sh false (.i .i64 (s:Nat))]),(4,.c .one [.sh false (.i .i64 (i:Nat))])]) t.Inodes.length (by omega) ?_ ?_
 ·simp only[go_sem,seval]
  exact⟨0,0,Nat.zero_le _,rfl,by rw[List.drop_zero,Nat.zero_add],rfl⟩
 ·rintro r σ ⟨i,s,hi,rfl,he,rfl⟩
  by_cases hlt:i<t.Inodes.length
  ·have h1:((i:Int)<(t.Inodes.length:Int)):=by omega
   have hx:t.Inodes[i]? =some t.Inodes[i]:=List.getElem?_eq_getElem hlt
   have hox:=ho _ (List.getElem_mem hlt)
   generalize t.Inodes[i]=x at hx hox
   obtain⟨hod,hdl⟩:=hox.Data
   obtain⟨hoa,hal⟩:=hox.Attrs
   rw[Llz hx]at he
   have w1:=U7z (a:=s) (by omega)
   have w2:=Euz (a:=s+32) (b:=x.Data.length) (by omega)
   simp only[go_sem,seval,h1,hx,w1,w2]
   refine AFz (fun r' σ=>∃j u:Nat,j≤x.Attrs.length∧r'=x.Attrs.length - j∧u+D5z (x.Attrs.drop j)=s+32+x.Data.length+D5z x.Attrs∧σ=slots 50 [(1,.c .box [.sh true (.s 6 (t.Inodes.map TInode.pv)),.sh false (.i .i64 t.Next)]),(3,.c .one [.sh false (.i .i64 (u:Nat))]),(4,.c .one [.sh false (.i .i64 (i:Nat))]),(5,.c .box [.sh false (.i .i64 x.Ino),.sh false (.i .i64 x.Kind),.sh false (.i .i64 x.Links),.sh true (.s 1 (x.Data.map bpv)),.sh true (.s 2 (x.Ents.map TEnt.pv)),.sh true (.s 2 (x.Attrs.map TAttr.pv))]),(6,.c .one [.sh false (.i .i64 (j:Nat))])]) x.Attrs.length (by omega) ?_ ?_
   ·simp only[go_sem,seval]
    exact⟨0,s+32+x.Data.length,Nat.zero_le _,rfl,by rw[List.drop_zero],rfl⟩
   ·rintro r' σ ⟨j,u,hj,rfl,he2,rfl⟩
    by_cases hlt2:j<x.Attrs.length
    ·have h2:((j:Int)<(x.Attrs.length:Int)):=by omega
     have hy:x.Attrs[j]? =some x.Attrs[j]:=List.getElem?_eq_getElem hlt2
     generalize x.Attrs[j]=a at hy
     rw[K8z hy]at he2
     have v1:=Euz (a:=u) (b:=a.Name.size) (by omega)
     have v2:=Euz (a:=u+a.Name.size) (b:=a.Val.size) (by omega)
     simp only[go_sem,seval,h2,hy,v1,v2,ACz hlt2 (by omega)]
     refine chk (by kernel_rfl) ⟨_,by omega,j+1,u+a.Name.size+a.Val.size,hlt2,rfl,by omega,by with_reducible rfl⟩
    ·have h2:¬((j:Int)<(x.Attrs.length:Int)):=by omega
     obtain rfl:j=x.Attrs.length:=by omega
     rw[List.drop_length]at he2
     simp only[D5z]at he2
     simp only[go_sem,seval,h2,ACz hlt (by omega)]
     exact⟨_,by omega,i+1,u,hlt,rfl,by omega,by with_reducible rfl⟩
  ·have h1:¬((i:Int)<(t.Inodes.length:Int)):=by omega
   obtain rfl:i=t.Inodes.length:=by omega
   rw[List.drop_length]at he
   simp only[useU,Nat.add_zero]at he
   rw[←he]
   simp only[go_sem,seval,h1]
set_option maxHeartbeats 4000000 in
theorem Mrz (n:Nat) (hn:Big+2≤n) (t:TTab) (ht:t.ok):pcall env n 102 [.c .agg (t.pv.map AMz)] []=some ⟨pvSV (.i .i64 (useU t.Inodes:Nat)),[]⟩:=by
 obtain⟨m,rfl⟩:=AEz hn
 have hB:=ASz
 have hbd:Bd=1048576:=rfl
 have hU:=PPz ht
 obtain⟨ho,hlen⟩:=ht.Inodes
 refine ANz (ADz (fn:=Tryz.f102) rfl rfl rfl (Nat.le_of_ble_eq_true rfl) ?_)
 unfold Tryz.f102
 simp only[go_sem,seval]
 refine AFz (fun r σ=>∃i s:Nat,i≤t.Inodes.length∧r=t.Inodes.length - i∧s+useU (t.Inodes.drop i)=useU t.Inodes∧σ=slots 40 [(1,.c .box [.sh true (.s 6 (t.Inodes.map TInode.pv)),.sh false (.i .i64 t.Next)]),(3,.c .one [.sh false (.i .i64 (s:Nat))]),(9,.c .one [.sh true (.s 6 (t.Inodes.map TInode.pv))]),(10,.c .one [.sh false (.i .i64 (t.Inodes.length:Nat))]),(11,.c .one [.sh false (.i .i64 (i:Nat))])]) t.Inodes.length (by omega) ?_ ?_
 ·simp only[go_sem,seval]
  exact⟨0,0,Nat.zero_le _,rfl,by rw[List.drop_zero,Nat.zero_add],rfl⟩
 ·rintro r σ ⟨i,s,hi,rfl,he,rfl⟩
  by_cases hlt:i<t.Inodes.length
  ·have h1:((i:Int)<(t.Inodes.length:Int)):=by omega
   have hx:t.Inodes[i]? =some t.Inodes[i]:=List.getElem?_eq_getElem hlt
   have hox:=ho _ (List.getElem_mem hlt)
   generalize t.Inodes[i]=x at hx hox
   obtain⟨hod,hdl⟩:=hox.Data
   obtain⟨hoa,hal⟩:=hox.Attrs
   rw[Llz hx]at he
   have w1:=TJz (a:=x.Data.length) (by omega)
   have w2:=Euz (a:=s) (b:=32+x.Data.length) (by omega)
   simp only[go_sem,seval,h1,hx,w1,w2]
   refine AFz (fun r' σ=>∃j u:Nat,j≤x.Attrs.length∧r'=x.Attrs.length - j∧u+D5z (x.Attrs.drop j)=s+(32+x.Data.length)+D5z x.Attrs∧σ=slots 40 [(1,.c .box [.sh true (.s 6 (t.Inodes.map TInode.pv)),.sh false (.i .i64 t.Next)]),(3,.c .one [.sh false (.i .i64 (u:Nat))]),(5,.c .box [.sh false (.i .i64 x.Ino),.sh false (.i .i64 x.Kind),.sh false (.i .i64 x.Links),.sh true (.s 1 (x.Data.map bpv)),.sh true (.s 2 (x.Ents.map TEnt.pv)),.sh true (.s 2 (x.Attrs.map TAttr.pv))]),(9,.c .one [.sh true (.s 6 (t.Inodes.map TInode.pv))]),(10,.c .one [.sh false (.i .i64 (t.Inodes.length:Nat))]),(11,.c .one [.sh false (.i .i64 (i:Nat))]),(22,.c .one [.sh true (.s 2 (x.Attrs.map TAttr.pv))]),(23,.c .one [.sh false (.i .i64 (x.Attrs.length:Nat))]),(24,.c .one [.sh false (.i .i64 (j:Nat))])]) x.Attrs.length (by omega) ?_ ?_
   ·simp only[go_sem,seval]
    exact⟨0,s+(32+x.Data.length),Nat.zero_le _,rfl,by rw[List.drop_zero],rfl⟩
   ·rintro r' σ ⟨j,u,hj,rfl,he2,rfl⟩
    by_cases hlt2:j<x.Attrs.length
    ·have h2:((j:Int)<(x.Attrs.length:Int)):=by omega
     have hy:x.Attrs[j]? =some x.Attrs[j]:=List.getElem?_eq_getElem hlt2
     generalize x.Attrs[j]=a at hy
     rw[K8z hy]at he2
     have v1:=Euz (a:=a.Name.size) (b:=a.Val.size) (by omega)
     have v2:=Euz (a:=u) (b:=a.Name.size+a.Val.size) (by omega)
     simp only[go_sem,seval,h2,hy,v1,v2,ACz hlt2 (by omega)]
     refine⟨_,by omega,j+1,u+(a.Name.size+a.Val.size),hlt2,rfl,by omega,by with_reducible rfl⟩
    ·have h2:¬((j:Int)<(x.Attrs.length:Int)):=by omega
     obtain rfl:j=x.Attrs.length:=by omega
     rw[List.drop_length]at he2
     simp only[D5z]at he2
     simp only[go_sem,seval,h2,ACz hlt (by omega)]
     exact⟨_,by omega,i+1,u,hlt,rfl,by omega,by with_reducible rfl⟩
  ·have h1:¬((i:Int)<(t.Inodes.length:Int)):=by omega
   obtain rfl:i=t.Inodes.length:=by omega
   rw[List.drop_length]at he
   simp only[useU,Nat.add_zero]at he
   rw[←he]
   simp only[go_sem,seval,h1]
end Go.Proofs.YtblelojdboefjaaGreatDoor.R
namespace Go.Proofs.YtblelojdboefjaaGreatDoor.R
open Go
noncomputable def volB (x:TFs) (j:Nat) (p:Option TVol) (v:TVol):Bool:=
 if v.Id<1 then false else if v.Id≥x.Next then false else if(match p with
 |some y=>decide (y.Id≥v.Id)
 |none=>false)=true then false else if BYz v.Name=false then false else if(atX (Bkz v.Name) x.Vols !=(j:Nat))=true then false else if inB v.Limit 32 4000=false then false else if AXz v.T=false then false else if(useU v.T.Inodes:Int)>v.Limit then false else true
noncomputable def AQz (x:TFs) (j:Nat):Bool:=match x.Vols[j]? with
 |some v=>volB x j (if j=0 then none else x.Vols[j - 1]?) v
 |none=>true
noncomputable def fsB (x:TFs):Bool:= !(decide ((x.Vols.length:Int)>6))&&inB x.Next 1 99&&allB x.Vols.length (AQz x)
theorem Qmz (n:Nat) (hn:Big+2≤n) (k:Int):pcall env n 141 [.c .one [.sh false (.i .i64 (k))]] []=some ⟨.c .one [.sh false (.b (inB k 32 4000))],[]⟩:=by
 refine walk (fn:=Tryz.f141) (d:=1) hn rfl rfl rfl (Nat.le_of_ble_eq_true rfl) fun m hd=> ?_
 unfold Tryz.f141 inB
 have c1:=Fuz m (hd (by decide)) k 32 4000
 simp only[go_sem]at c1
 simp only[go_sem,seval,c1]
set_option maxHeartbeats 8000000 in
theorem Sgz (n:Nat) (hn:Big+12≤n) (x:TFs) (hx:x.ok):pcall env n 61 [.c .agg (x.pv.map AMz)] []=some ⟨.c .one [.sh false (.b (fsB x))],[]⟩:=by
 refine walk (fn:=Tryz.f61) (d:=11) hn rfl rfl rfl (Nat.le_of_ble_eq_true rfl) fun m hd=> ?_
 unfold Tryz.f61
 have hbd:Bd=1048576:=rfl
 have hl:=hx.Vols.2
 have hin:=fun a b c=>E2z m (hd (by decide)) a b c
 simp only[go_sem]at hin
 by_cases b1:(x.Vols.length:Int)>6
 ·have e:fsB x=false:=by unfold fsB;simp[b1]
  rw[e]
  simp only[go_sem,seval,b1]
 cases b2:inB x.Next 1 99 with
 |false=>
  have e:fsB x=false:=by unfold fsB;simp[b2]
  rw[e]
  unfold inB at b2
  simp only[go_sem,seval,b1,hin,b2]
 |true=>
 have b2':=b2
 unfold inB at b2
 have hnm:=fun s=>Moz m (hd (by decide)) x hx s
 simp only[go_sem]at hnm
 simp only[go_sem,seval,b1,hin,b2]
 refine A5z x.Vols (fun j=>slots 87 [(1,.c .box [.sh true (.s 6 (x.Vols.map TVol.pv)),.sh false (.i .i64 x.Next)]),(3,.c .one [.sh false (.i .i64 (j:Nat))])]) (fun j=>∀i,i<j→AQz x i=true) (hd (Nat.zero_le _)) (by omega) ?_ (fun j v hv hm hj h1 hw hI=> ?_) (fun hI=> ?_)
 ·simp only[go_sem,seval];exact fin rfl fun i hi=>absurd hi (Nat.not_lt_zero _)
 ·have ho:=hx.Vols.1 v hm
  have bad:AQz x j=false→fsB x=false:=fun e=>by unfold fsB;rw[A8z hj e];simp
  have c1:=D7z m (hd (by decide)) v.Name ho.Name
  have c3:=E9z m (hd (by decide)) v.T ho.T
  have c4:=Mqz m (hd (by decide)) v.T ho.T
  simp only[go_sem]at c1 c3 c4
  have step:AQz x j=true→∀i,i<j+1→AQz x i=true:=fun e i hi=>by
   rcases Nat.lt_succ_iff_lt_or_eq.1 hi with h|h
   ·exact hI i h
   ·subst h;exact e
  by_cases h0:j=0
  ·have hp:(if j=0 then none else x.Vols[j - 1]?)=none:=if_pos h0
   have hgt:¬((j:Int)>0):=by omega
   by_cases q1:v.Id<1
   ·have e:AQz x j=false:=by
     unfold AQz;rw[hv];simp only[hp];unfold volB;rw[if_pos q1]
    rw[bad e]
    simp only[go_sem,seval,h1,hv,hin,hnm,c1,c3,c4,hgt,q1]<;>exact chk1 (by kernel_rfl)
   by_cases q2:v.Id≥x.Next
   ·have e:AQz x j=false:=by
     unfold AQz;rw[hv];simp only[hp];unfold volB;rw[if_neg q1,if_pos q2]
    rw[bad e]
    simp only[go_sem,seval,h1,hv,hin,hnm,c1,c3,c4,hgt,q1,q2]<;>exact chk1 (by kernel_rfl)
   by_cases q4:BYz v.Name=false
   ·have e:AQz x j=false:=by
     unfold AQz;rw[hv];simp only[hp];unfold volB;rw[if_neg q1,if_neg q2,if_neg (by simp),if_pos q4]
    rw[bad e]
    simp only[go_sem,seval,h1,hv,hin,hnm,c1,c3,c4,hgt,q1,q2,q4]<;>exact chk1 (by kernel_rfl)
   rw[Bool.not_eq_false]at q4
   by_cases q5:(atX (Bkz v.Name) x.Vols !=(j:Nat))=true
   ·have e:AQz x j=false:=by
     unfold AQz;rw[hv];simp only[hp];unfold volB;rw[if_neg q1,if_neg q2,if_neg (by simp),if_neg (by rw[q4];decide),if_pos q5]
    rw[bad e]
    simp only[go_sem,seval,h1,hv,hin,hnm,c1,c3,c4,hgt,q1,q2,q4,q5]<;>exact chk1 (by kernel_rfl)
   have q5':atX (Bkz v.Name) x.Vols=(j:Nat):=by simpa using q5
   by_cases q6:inB v.Limit 32 4000=false
   ·have e:AQz x j=false:=by
     unfold AQz;rw[hv];simp only[hp];unfold volB;rw[if_neg q1,if_neg q2,if_neg (by simp),if_neg (by rw[q4];decide),if_neg q5,if_pos q6]
    rw[bad e]
    have q6':=q6
    unfold inB at q6
    simp only[go_sem,seval,h1,hv,hin,hnm,c1,c3,c4,hgt,q1,q2,q4,q5',q6,q6']<;>exact chk1 (by kernel_rfl)
   rw[Bool.not_eq_false]at q6
   have q6':=q6
   unfold inB at q6
   by_cases q7:AXz v.T=false
   ·have e:AQz x j=false:=by
     unfold AQz;rw[hv];simp only[hp];unfold volB;rw[if_neg q1,if_neg q2,if_neg (by simp),if_neg (by rw[q4];decide),if_neg q5,if_neg (by rw[q6'];decide),if_pos q7]
    rw[bad e]
    simp only[go_sem,seval,h1,hv,hin,hnm,c1,c3,c4,hgt,q1,q2,q4,q5',q6,q6',q7]<;>exact chk1 (by kernel_rfl)
   rw[Bool.not_eq_false]at q7
   by_cases q8:(useU v.T.Inodes:Int)>v.Limit
   ·have e:AQz x j=false:=by
     unfold AQz;rw[hv];simp only[hp];unfold volB;rw[if_neg q1,if_neg q2,if_neg (by simp),if_neg (by rw[q4];decide),if_neg q5,if_neg (by rw[q6'];decide),if_neg (by rw[q7];decide),if_pos q8]
    rw[bad e]
    simp only[go_sem,seval,h1,hv,hin,hnm,c1,c3,c4,hgt,q1,q2,q4,q5',q6,q6',q7,q8]<;>exact chk1 (by kernel_rfl)
   have e:AQz x j=true:=by
    unfold AQz;rw[hv];simp only[hp];unfold volB;rw[if_neg q1,if_neg q2,if_neg (by simp),if_neg (by rw[q4];decide),if_neg q5,if_neg (by rw[q6'];decide),if_neg (by rw[q7];decide),if_neg q8]
   simp only[go_sem,seval,h1,hv,hin,hnm,hw,c1,c3,c4,hgt,q1,q2,q4,q5',q6,q6',q7,q8]
   exact chk (by kernel_rfl) (fin rfl (step e))
  ·have hgt:((j:Int)>0):=by omega
   have hy:x.Vols[j - 1]? =some x.Vols[j - 1]:=List.getElem?_eq_getElem (by omega)
   generalize x.Vols[j - 1]=y at hy
   have hp:(if j=0 then none else x.Vols[j - 1]?)=some y:=by rw[if_neg h0,hy]
   obtain⟨j',hj'⟩:∃j',j'=j - 1:=⟨_,rfl⟩
   rw[←hj']at hy
   have ws:IntKind.i64.wrap ((j:Int) - 1)=(j':Int):=by rw[ARz (by omega) (by omega)];omega
   by_cases q1:v.Id<1
   ·have e:AQz x j=false:=by
     unfold AQz;rw[hv];simp only[hp];unfold volB;rw[if_pos q1]
    rw[bad e]
    simp only[go_sem,seval,h1,hv,hin,hnm,c1,c3,c4,hgt,ws,hy,q1]<;>exact chk1 (by kernel_rfl)
   by_cases q2:v.Id≥x.Next
   ·have e:AQz x j=false:=by
     unfold AQz;rw[hv];simp only[hp];unfold volB;rw[if_neg q1,if_pos q2]
    rw[bad e]
    simp only[go_sem,seval,h1,hv,hin,hnm,c1,c3,c4,hgt,ws,hy,q1,q2]<;>exact chk1 (by kernel_rfl)
   by_cases q3:y.Id≥v.Id
   ·have e:AQz x j=false:=by
     have q3':decide (y.Id≥v.Id)=true:=by simpa using q3
     unfold AQz;rw[hv];simp only[hp];unfold volB;rw[if_neg q1,if_neg q2,if_pos q3']
    rw[bad e]
    simp only[go_sem,seval,h1,hv,hin,hnm,c1,c3,c4,hgt,ws,hy,q1,q2,q3]<;>exact chk1 (by kernel_rfl)
   by_cases q4:BYz v.Name=false
   ·have e:AQz x j=false:=by
     have q3':¬(decide (y.Id≥v.Id)=true):=by simpa using q3
     unfold AQz;rw[hv];simp only[hp];unfold volB;rw[if_neg q1,if_neg q2,if_neg q3',if_pos q4]
    rw[bad e]
    simp only[go_sem,seval,h1,hv,hin,hnm,c1,c3,c4,hgt,ws,hy,q1,q2,q3,q4]<;>exact chk1 (by kernel_rfl)
   rw[Bool.not_eq_false]at q4
   by_cases q5:(atX (Bkz v.Name) x.Vols !=(j:Nat))=true
   ·have e:AQz x j=false:=by
     have q3':¬(decide (y.Id≥v.Id)=true):=by simpa using q3
     unfold AQz;rw[hv];simp only[hp];unfold volB;rw[if_neg q1,if_neg q2,if_neg q3',if_neg (by rw[q4];decide),if_pos q5]
    rw[bad e]
    simp only[go_sem,seval,h1,hv,hin,hnm,c1,c3,c4,hgt,ws,hy,q1,q2,q3,q4,q5]<;>exact chk1 (by kernel_rfl)
   have q5':atX (Bkz v.Name) x.Vols=(j:Nat):=by simpa using q5
   by_cases q6:inB v.Limit 32 4000=false
   ·have e:AQz x j=false:=by
     have q3':¬(decide (y.Id≥v.Id)=true):=by simpa using q3
     unfold AQz;rw[hv];simp only[hp];unfold volB;rw[if_neg q1,if_neg q2,if_neg q3',if_neg (by rw[q4];decide),if_neg q5,if_pos q6]
    rw[bad e]
    have q6':=q6
    unfold inB at q6
    simp only[go_sem,seval,h1,hv,hin,hnm,c1,c3,c4,hgt,ws,hy,q1,q2,q3,q4,q5',q6,q6']<;>exact chk1 (by kernel_rfl)
   rw[Bool.not_eq_false]at q6
   have q6':=q6
   unfold inB at q6
   by_cases q7:AXz v.T=false
   ·have e:AQz x j=false:=by
     have q3':¬(decide (y.Id≥v.Id)=true):=by simpa using q3
     unfold AQz;rw[hv];simp only[hp];unfold volB;rw[if_neg q1,if_neg q2,if_neg q3',if_neg (by rw[q4];decide),if_neg q5,if_neg (by rw[q6'];decide),if_pos q7]
    rw[bad e]
    simp only[go_sem,seval,h1,hv,hin,hnm,c1,c3,c4,hgt,ws,hy,q1,q2,q3,q4,q5',q6,q6',q7]<;>exact chk1 (by kernel_rfl)
   rw[Bool.not_eq_false]at q7
   by_cases q8:(useU v.T.Inodes:Int)>v.Limit
   ·have e:AQz x j=false:=by
     have q3':¬(decide (y.Id≥v.Id)=true):=by simpa using q3
     unfold AQz;rw[hv];simp only[hp];unfold volB;rw[if_neg q1,if_neg q2,if_neg q3',if_neg (by rw[q4];decide),if_neg q5,if_neg (by rw[q6'];decide),if_neg (by rw[q7];decide),if_pos q8]
    rw[bad e]
    simp only[go_sem,seval,h1,hv,hin,hnm,c1,c3,c4,hgt,ws,hy,q1,q2,q3,q4,q5',q6,q6',q7,q8]<;>exact chk1 (by kernel_rfl)
   have e:AQz x j=true:=by
    have q3':¬(decide (y.Id≥v.Id)=true):=by simpa using q3
    unfold AQz;rw[hv];simp only[hp];unfold volB;rw[if_neg q1,if_neg q2,if_neg q3',if_neg (by rw[q4];decide),if_neg q5,if_neg (by rw[q6'];decide),if_neg (by rw[q7];decide),if_neg q8]
   simp only[go_sem,seval,h1,hv,hin,hnm,hw,c1,c3,c4,hgt,ws,hy,q1,q2,q3,q4,q5',q6,q6',q7,q8]
   exact chk (by kernel_rfl) (fin rfl (step e))
 ·have e:fsB x=true:=by unfold fsB;rw[decide_eq_false b1,b2',BRz hI];rfl
  rw[e]
  simp only[go_sem,seval]
set_option maxHeartbeats 8000000 in
theorem Shz (n:Nat) (hn:Big+12≤n) (x:TFs) (hx:x.ok):pcall env n 66 [.c .agg (x.pv.map AMz)] []=some ⟨.c .one [.sh false (.b (fsB x))],[]⟩:=by
 refine walk (fn:=Tryz.f66) (d:=11) hn rfl rfl rfl (Nat.le_of_ble_eq_true rfl) fun m hd=> ?_
 unfold Tryz.f66
 have hbd:Bd=1048576:=rfl
 have hl:=hx.Vols.2
 have hin:=fun a b c=>Fuz m (hd (by decide)) a b c
 simp only[go_sem]at hin
 by_cases b1:(x.Vols.length:Int)>6
 ·have e:fsB x=false:=by unfold fsB;simp[b1]
  rw[e]
  simp only[go_sem,seval,b1]
 cases b2:inB x.Next 1 99 with
 |false=>
  have e:fsB x=false:=by unfold fsB;simp[b2]
  rw[e]
  unfold inB at b2
  simp only[go_sem,seval,b1,hin,b2]
 |true=>
 have b2':=b2
 unfold inB at b2
 have hnm:=fun s=>Mpz m (hd (by decide)) x hx s
 simp only[go_sem]at hnm
 simp only[go_sem,seval,b1,hin,b2]
 refine A5z x.Vols (fun j=>slots 84 [(1,.c .box [.sh true (.s 6 (x.Vols.map TVol.pv)),.sh false (.i .i64 x.Next)]),(16,.c .one [.sh true (.s 6 (x.Vols.map TVol.pv))]),(17,.c .one [.sh false (.i .i64 (x.Vols.length:Nat))]),(18,.c .one [.sh false (.i .i64 (j:Nat))])]) (fun j=>∀i,i<j→AQz x i=true) (hd (Nat.zero_le _)) (by omega) ?_ (fun j v hv hm hj h1 hw hI=> ?_) (fun hI=> ?_)
 ·simp only[go_sem,seval];exact fin rfl fun i hi=>absurd hi (Nat.not_lt_zero _)
 ·have ho:=hx.Vols.1 v hm
  have bad:AQz x j=false→fsB x=false:=fun e=>by unfold fsB;rw[A8z hj e];simp
  have c1:=FDz m (hd (by decide)) v.Name ho.Name
  have c2:=Qmz m (hd (by decide)) v.Limit
  have c3:=FAz m (hd (by decide)) v.T ho.T
  have c4:=Mrz m (hd (by decide)) v.T ho.T
  simp only[go_sem]at c1 c2 c3 c4
  have step:AQz x j=true→∀i,i<j+1→AQz x i=true:=fun e i hi=>by
   rcases Nat.lt_succ_iff_lt_or_eq.1 hi with h|h
   ·exact hI i h
   ·subst h;exact e
  by_cases h0:j=0
  ·have hp:(if j=0 then none else x.Vols[j - 1]?)=none:=if_pos h0
   have hgt:¬((j:Int)>0):=by omega
   by_cases q1:v.Id<1
   ·have e:AQz x j=false:=by
     unfold AQz;rw[hv];simp only[hp];unfold volB;rw[if_pos q1]
    rw[bad e]
    simp only[go_sem,seval,h1,hv,hin,hnm,c1,c2,c3,c4,hgt,q1]<;>exact chk1 (by kernel_rfl)
   by_cases q2:v.Id≥x.Next
   ·have e:AQz x j=false:=by
     unfold AQz;rw[hv];simp only[hp];unfold volB;rw[if_neg q1,if_pos q2]
    rw[bad e]
    simp only[go_sem,seval,h1,hv,hin,hnm,c1,c2,c3,c4,hgt,q1,q2]<;>exact chk1 (by kernel_rfl)
   by_cases q4:BYz v.Name=false
   ·have e:AQz x j=false:=by
     unfold AQz;rw[hv];simp only[hp];unfold volB;rw[if_neg q1,if_neg q2,if_neg (by simp),if_pos q4]
    rw[bad e]
    simp only[go_sem,seval,h1,hv,hin,hnm,c1,c2,c3,c4,hgt,q1,q2,q4]<;>exact chk1 (by kernel_rfl)
   rw[Bool.not_eq_false]at q4
   by_cases q5:(atX (Bkz v.Name) x.Vols !=(j:Nat))=true
   ·have e:AQz x j=false:=by
     unfold AQz;rw[hv];simp only[hp];unfold volB;rw[if_neg q1,if_neg q2,if_neg (by simp),if_neg (by rw[q4];decide),if_pos q5]
    rw[bad e]
    simp only[go_sem,seval,h1,hv,hin,hnm,c1,c2,c3,c4,hgt,q1,q2,q4,q5]<;>exact chk1 (by kernel_rfl)
   have q5':atX (Bkz v.Name) x.Vols=(j:Nat):=by simpa using q5
   by_cases q6:inB v.Limit 32 4000=false
   ·have e:AQz x j=false:=by
     unfold AQz;rw[hv];simp only[hp];unfold volB;rw[if_neg q1,if_neg q2,if_neg (by simp),if_neg (by rw[q4];decide),if_neg q5,if_pos q6]
    rw[bad e]
    have q6':=q6
    unfold inB at q6
    simp only[go_sem,seval,h1,hv,hin,hnm,c1,c2,c3,c4,hgt,q1,q2,q4,q5',q6,q6']<;>exact chk1 (by kernel_rfl)
   rw[Bool.not_eq_false]at q6
   have q6':=q6
   unfold inB at q6
   by_cases q7:AXz v.T=false
   ·have e:AQz x j=false:=by
     unfold AQz;rw[hv];simp only[hp];unfold volB;rw[if_neg q1,if_neg q2,if_neg (by simp),if_neg (by rw[q4];decide),if_neg q5,if_neg (by rw[q6'];decide),if_pos q7]
    rw[bad e]
    simp only[go_sem,seval,h1,hv,hin,hnm,c1,c2,c3,c4,hgt,q1,q2,q4,q5',q6,q6',q7]<;>exact chk1 (by kernel_rfl)
   rw[Bool.not_eq_false]at q7
   by_cases q8:(useU v.T.Inodes:Int)>v.Limit
   ·have e:AQz x j=false:=by
     unfold AQz;rw[hv];simp only[hp];unfold volB;rw[if_neg q1,if_neg q2,if_neg (by simp),if_neg (by rw[q4];decide),if_neg q5,if_neg (by rw[q6'];decide),if_neg (by rw[q7];decide),if_pos q8]
    rw[bad e]
    simp only[go_sem,seval,h1,hv,hin,hnm,c1,c2,c3,c4,hgt,q1,q2,q4,q5',q6,q6',q7,q8]<;>exact chk1 (by kernel_rfl)
   have e:AQz x j=true:=by
    unfold AQz;rw[hv];simp only[hp];unfold volB;rw[if_neg q1,if_neg q2,if_neg (by simp),if_neg (by rw[q4];decide),if_neg q5,if_neg (by rw[q6'];decide),if_neg (by rw[q7];decide),if_neg q8]
   simp only[go_sem,seval,h1,hv,hin,hnm,hw,c1,c2,c3,c4,hgt,q1,q2,q4,q5',q6,q6',q7,q8]
   exact chk (by kernel_rfl) (fin rfl (step e))
  ·have hgt:((j:Int)>0):=by omega
   have hy:x.Vols[j - 1]? =some x.Vols[j - 1]:=List.getElem?_eq_getElem (by omega)
   generalize x.Vols[j - 1]=y at hy
   have hp:(if j=0 then none else x.Vols[j - 1]?)=some y:=by rw[if_neg h0,hy]
   obtain⟨j',hj'⟩:∃j',j'=j - 1:=⟨_,rfl⟩
   rw[←hj']at hy
   have ws:IntKind.i64.wrap ((j:Int) - 1)=(j':Int):=by rw[ARz (by omega) (by omega)];omega
   by_cases q1:v.Id<1
   ·have e:AQz x j=false:=by
     unfold AQz;rw[hv];simp only[hp];unfold volB;rw[if_pos q1]
    rw[bad e]
    simp only[go_sem,seval,h1,hv,hin,hnm,c1,c2,c3,c4,hgt,ws,hy,q1]<;>exact chk1 (by kernel_rfl)
   by_cases q2:v.Id≥x.Next
   ·have e:AQz x j=false:=by
     unfold AQz;rw[hv];simp only[hp];unfold volB;rw[if_neg q1,if_pos q2]
    rw[bad e]
    simp only[go_sem,seval,h1,hv,hin,hnm,c1,c2,c3,c4,hgt,ws,hy,q1,q2]<;>exact chk1 (by kernel_rfl)
   by_cases q3:y.Id≥v.Id
   ·have e:AQz x j=false:=by
     have q3':decide (y.Id≥v.Id)=true:=by simpa using q3
     unfold AQz;rw[hv];simp only[hp];unfold volB;rw[if_neg q1,if_neg q2,if_pos q3']
    rw[bad e]
    simp only[go_sem,seval,h1,hv,hin,hnm,c1,c2,c3,c4,hgt,ws,hy,q1,q2,q3]<;>exact chk1 (by kernel_rfl)
   by_cases q4:BYz v.Name=false
   ·have e:AQz x j=false:=by
     have q3':¬(decide (y.Id≥v.Id)=true):=by simpa using q3
     unfold AQz;rw[hv];simp only[hp];unfold volB;rw[if_neg q1,if_neg q2,if_neg q3',if_pos q4]
    rw[bad e]
    simp only[go_sem,seval,h1,hv,hin,hnm,c1,c2,c3,c4,hgt,ws,hy,q1,q2,q3,q4]<;>exact chk1 (by kernel_rfl)
   rw[Bool.not_eq_false]at q4
   by_cases q5:(atX (Bkz v.Name) x.Vols !=(j:Nat))=true
   ·have e:AQz x j=false:=by
     have q3':¬(decide (y.Id≥v.Id)=true):=by simpa using q3
     unfold AQz;rw[hv];simp only[hp];unfold volB;rw[if_neg q1,if_neg q2,if_neg q3',if_neg (by rw[q4];decide),if_pos q5]
    rw[bad e]
    simp only[go_sem,seval,h1,hv,hin,hnm,c1,c2,c3,c4,hgt,ws,hy,q1,q2,q3,q4,q5]<;>exact chk1 (by kernel_rfl)
   have q5':atX (Bkz v.Name) x.Vols=(j:Nat):=by simpa using q5
   by_cases q6:inB v.Limit 32 4000=false
   ·have e:AQz x j=false:=by
     have q3':¬(decide (y.Id≥v.Id)=true):=by simpa using q3
     unfold AQz;rw[hv];simp only[hp];unfold volB;rw[if_neg q1,if_neg q2,if_neg q3',if_neg (by rw[q4];decide),if_neg q5,if_pos q6]
    rw[bad e]
    have q6':=q6
    unfold inB at q6
    simp only[go_sem,seval,h1,hv,hin,hnm,c1,c2,c3,c4,hgt,ws,hy,q1,q2,q3,q4,q5',q6,q6']<;>exact chk1 (by kernel_rfl)
   rw[Bool.not_eq_false]at q6
   have q6':=q6
   unfold inB at q6
   by_cases q7:AXz v.T=false
   ·have e:AQz x j=false:=by
     have q3':¬(decide (y.Id≥v.Id)=true):=by simpa using q3
     unfold AQz;rw[hv];simp only[hp];unfold volB;rw[if_neg q1,if_neg q2,if_neg q3',if_neg (by rw[q4];decide),if_neg q5,if_neg (by rw[q6'];decide),if_pos q7]
    rw[bad e]
    simp only[go_sem,seval,h1,hv,hin,hnm,c1,c2,c3,c4,hgt,ws,hy,q1,q2,q3,q4,q5',q6,q6',q7]<;>exact chk1 (by kernel_rfl)
   rw[Bool.not_eq_false]at q7
   by_cases q8:(useU v.T.Inodes:Int)>v.Limit
   ·have e:AQz x j=false:=by
     have q3':¬(decide (y.Id≥v.Id)=true):=by simpa using q3
     unfold AQz;rw[hv];simp only[hp];unfold volB;rw[if_neg q1,if_neg q2,if_neg q3',if_neg (by rw[q4];decide),if_neg q5,if_neg (by rw[q6'];decide),if_neg (by rw[q7];decide),if_pos q8]
    rw[bad e]
    simp only[go_sem,seval,h1,hv,hin,hnm,c1,c2,c3,c4,hgt,ws,hy,q1,q2,q3,q4,q5',q6,q6',q7,q8]<;>exact chk1 (by kernel_rfl)
   have e:AQz x j=true:=by
    have q3':¬(decide (y.Id≥v.Id)=true):=by simpa using q3
    unfold AQz;rw[hv];simp only[hp];unfold volB;rw[if_neg q1,if_neg q2,if_neg q3',if_neg (by rw[q4];decide),if_neg q5,if_neg (by rw[q6'];decide),if_neg (by rw[q7];decide),if_neg q8]
   simp only[go_sem,seval,h1,hv,hin,hnm,hw,c1,c2,c3,c4,hgt,ws,hy,q1,q2,q3,q4,q5',q6,q6',q7,q8]
   exact chk (by kernel_rfl) (fin rfl (step e))
 ·have e:fsB x=true:=by unfold fsB;rw[decide_eq_false b1,b2',BRz hI];rfl
  rw[e]
  simp only[go_sem,seval]
end Go.Proofs.YtblelojdboefjaaGreatDoor.R
namespace Go.Proofs.YtblelojdboefjaaGreatDoor.R
open Go
def Gez (Y:List TEntry) (e:TEntry):Bool:=match D1z Y e.Path with
 |none=>true
 |some o=> !eqE e o&& !((e.Kind==2)&&(o.Kind==2))
def DQz (X:List TEntry) (e:TEntry):Bool:=match D1z X e.Path with
 |none=>true
 |some o=> !eqE e o
def CKz (Y l:List TEntry):List ByteArray:=(l.filter (Gez Y)).map (·.Path)
def B4z (X l:List TEntry):List TEntry:=l.filter (DQz X)
noncomputable def CUz (a b:TTab):TDelta:=match AXz a&&AXz b with
 |true=>⟨DGz b,CKz (Anz b) (Anz a),B4z (Anz a) (Anz b)⟩
 |false=>⟨[],[],[]⟩
theorem E6z {t:TTab} (ht:t.ok) {e:TEntry} (he:e∈Anz t):e.ok∧(e.Kind=1∨e.Kind=2):=by
 obtain⟨p,hp,rfl⟩:=List.mem_map.1 he
 exact⟨UXz ht hp,Rxz hp⟩
theorem E7z (t:TTab):(Anz t).length≤9000:=by unfold Anz;rw[List.length_map];exact HRz t
theorem M3z {t:TTab} (ht:t.ok):(∀y∈DGz t,TAttr.ok y)∧(DGz t).length≤Bd:=by
 unfold DGz
 cases h:AIz t.Inodes 1 with
 |none=>exact⟨(fun _ h=>nomatch h),Nat.zero_le _⟩
 |some r=>exact(ht.Inodes.1 r (Axz h).1).Attrs
theorem MNz {Y l:List TEntry} {j:Nat} {e:TEntry} (h:l[j]? =some e):CKz Y (l.take (j+1))=CKz Y (l.take j)++(if Gez Y e=true then[e.Path]else[]):=by
 unfold CKz
 rw[List.take_add_one,h,List.filter_append,List.map_append]
 cases hg:Gez Y e<;>simp[hg]
theorem Klz {X l:List TEntry} {j:Nat} {e:TEntry} (h:l[j]? =some e):B4z X (l.take (j+1))=B4z X (l.take j)++(if DQz X e=true then[e]else[]):=by
 unfold B4z
 rw[List.take_add_one,h,List.filter_append]
 cases hg:DQz X e<;>simp[hg]
theorem Jrz {Y l:List TEntry} {j:Nat}:(CKz Y (l.take j)).length≤l.length:=by
 unfold CKz
 rw[List.length_map]
 exact Nat.le_trans (List.length_filter_le _ _) (by rw[List.length_take];omega)
theorem Icz {X l:List TEntry} {j:Nat}:(B4z X (l.take j)).length≤l.length:=by
 unfold B4z
 exact Nat.le_trans (List.length_filter_le _ _) (by rw[List.length_take];omega)
def Q6z (d:TDelta):List CV:=[.ow false 2 (d.Attrs.map TAttr.pv),.ow false 1 (d.Gone.map spv),.ow false 5 (d.Fresh.map TEntry.pv)]
theorem Plz {e:TEntry} (h:e.Kind=1∨e.Kind=2):(e.Kind==1)= !(e.Kind==2):=by
 rcases h with h|h<;>rw[h]<;>decide
section
variable (n:Nat)
set_option maxHeartbeats 8000000 in
theorem PFz (hn:Big+50≤n) (a b:TTab) (ha:a.ok) (hb:b.ok):pcall env n 9 [.c .agg (a.pv.map AMz),.c .agg (b.pv.map AMz)] []=some ⟨.c .agg (Q6z (CUz a b)),[]⟩:=by
 refine walk (fn:=Tryz.f9) (d:=49) hn rfl rfl rfl (Nat.le_of_ble_eq_true rfl) fun k hd=> ?_
 unfold Tryz.f9
 have hbd:Bd=1048576:=rfl
 have hlim:LIM=70368744177664:=rfl
 have c1:=E9z k (hd (by decide)) a ha
 have c2:=E9z k (hd (by decide)) b hb
 have c3:=Qlz k (hd (by decide)) b hb
 have c4:=JVz k (hd (by decide)) a ha
 have c5:=JVz k (hd (by decide)) b hb
 have hX:=fun e he=>E6z (e:=e) ha he
 have hY:=fun e he=>E6z (e:=e) hb he
 have lX:=E7z a
 have lY:=E7z b
 have lR:=M3z hb
 have e1:(DGz b).length*32≤LIM:=by have:=lR.2;omega
 have hD:CUz a b=match AXz a&&AXz b with
  |true=>⟨DGz b,CKz (Anz b) (Anz a),B4z (Anz a) (Anz b)⟩
  |false=>⟨[],[],[]⟩:=rfl
 generalize CUz a b=D at hD ⊢
 cases hta:AXz a
 case false=>
  rw[hta]at c1 hD
  have hD:D=⟨[],[],[]⟩:=hD
  subst hD
  simp only[go_sem]at c1
  simp only[go_sem,seval,c1]
  rfl
 cases htb:AXz b
 case false=>
  rw[hta]at c1
  rw[htb]at c2
  rw[hta,htb]at hD
  have hD:D=⟨[],[],[]⟩:=hD
  subst hD
  simp only[go_sem]at c1 c2
  simp only[go_sem,seval,c1,c2]
  rfl
 rw[hta]at c1
 rw[htb]at c2
 rw[hta,htb]at hD
 have hD:D=⟨DGz b,CKz (Anz b) (Anz a),B4z (Anz a) (Anz b)⟩:=hD
 subst hD
 generalize Anz a=X at c4 hX lX ⊢
 generalize Anz b=Y at c5 hY lY ⊢
 generalize DGz b=Rt at c3 lR e1 ⊢
 have hfY:=fun p=>Kfz k (hd (by decide)) Y (by omega) p
 have hfX:=fun p=>Kfz k (hd (by decide)) X (by omega) p
 simp only[go_sem]at c1 c2 c3 c4 c5
 simp only[go_sem,seval,c1,c2,c3,c4,c5,e1,Nat.zero_mul,Nat.zero_le,Nat.zero_add]
 refine A5z X (fun j=>slots 120 [(2,.c .box [.sh true (.s 6 (a.Inodes.map TInode.pv)),.sh false (.i .i64 a.Next)]),(3,.c .box [.sh true (.s 6 (b.Inodes.map TInode.pv)),.sh false (.i .i64 b.Next)]),(4,.c .box [.ow false 2 [],.ow false 1 [],.ow false 5 []]),(5,.c .box [.ow false 2 (Rt.map TAttr.pv),.ow false 1 ((CKz Y (X.take j)).map spv),.ow false 5 []]),(6,.c .one [.ow false 5 (X.map TEntry.pv)]),(7,.c .one [.ow false 5 (Y.map TEntry.pv)]),(8,.c .one [.sh false (.i .i64 (j:Nat))])]) (fun _=>True) (hd (Nat.zero_le _)) (by omega) ?_ (fun j e hx he hj h1 hw _=> ?_) (fun _=> ?_)
 ·simp only[go_sem,seval];exact fin' rfl
 ·rw[MNz hx]
  have hl:=Jrz (Y:=Y) (l:=X) (j:=j)
  have g1:((CKz Y (X.take j)).length+1)*16≤LIM:=by omega
  generalize CKz Y (X.take j)=L at hl g1 ⊢
  have c6:=hfY e.Path
  have hge:Gez Y e=match D1z Y e.Path with
   |none=>true
   |some o=> !eqE e o&& !((e.Kind==2)&&(o.Kind==2)):=rfl
  generalize Gez Y e=G at hge ⊢
  rcases Ghz Y e.Path with⟨f1,f2⟩|⟨j2,o,f1,f2,hy⟩
  ·rw[f2]at c6
   rw[f1]at hge
   have hge:G=true:=hge
   subst hge
   rw[if_pos rfl]
   simp only[go_sem,seval,h1,hx,c6]
   refine chk (by kernel_rfl) ?_
   refine chk (by kernel_rfl) ?_
   simp only[go_sem,seval,g1,hw]
   exact fin' (by first|rfl|(simp only[List.map_append];rfl))
  ·rw[f2]at c6
   rw[f1]at hge
   have hge:G=(!eqE e o&& !((e.Kind==2)&&(o.Kind==2))):=hge
   have c7:=Kdz k (hd (by decide)) e o (hX e he).1
   have hj2:((j2:Int)<0)=False:=by simp
   have k1:=Plz (hX e he).2
   have k2:=Plz (hY o (List.mem_of_getElem? hy)).2
   try simp only[go_sem]at c7
   have hcs:(eqE e o=true∧G=false)∨(eqE e o=false∧(e.Kind==1)=true∧G=true)∨(eqE e o=false∧(e.Kind==1)=false∧(o.Kind==1)=true∧G=true)∨(eqE e o=false∧(e.Kind==1)=false∧(o.Kind==1)=false∧G=false):=by
    rw[k1,k2,hge]
    cases eqE e o<;>cases (e.Kind==2)<;>cases (o.Kind==2)<;>simp
   rcases hcs with⟨q1,rfl⟩|⟨q1,q2,rfl⟩|⟨q1,q2,q3,rfl⟩|⟨q1,q2,q3,rfl⟩
   all_goals
    simp only[go_sem,seval,h1,hx,c6,hj2,hy,c7,q1]
    try simp only[go_sem,seval,q2,hx,hy]
    try simp only[go_sem,seval,q3,hx,hy]
    try refine chk (by kernel_rfl) ?_
    try simp only[go_sem,seval,h1,hx,c6,hj2,hy,c7,q1]
    try simp only[go_sem,seval,q2,hx,hy]
    try simp only[go_sem,seval,q3,hx,hy]
    try refine chk (by kernel_rfl) ?_
    try simp only[go_sem,seval,g1,hw]
    try exact fin' (by first|rfl|(simp only[List.map_append];rfl)|(rw[if_neg (by decide),List.append_nil];rfl))
 ·rw[List.take_length]
  simp only[go_sem,seval]
  generalize CKz Y X=Gn
  refine A5z Y (fun j=>slots 120 [(2,.c .box [.sh true (.s 6 (a.Inodes.map TInode.pv)),.sh false (.i .i64 a.Next)]),(3,.c .box [.sh true (.s 6 (b.Inodes.map TInode.pv)),.sh false (.i .i64 b.Next)]),(4,.c .box [.ow false 2 [],.ow false 1 [],.ow false 5 []]),(5,.c .box [.ow false 2 (Rt.map TAttr.pv),.ow false 1 (Gn.map spv),.ow false 5 ((B4z X (Y.take j)).map TEntry.pv)]),(6,.c .one [.ow false 5 (X.map TEntry.pv)]),(7,.c .one [.ow false 5 (Y.map TEntry.pv)]),(10,.c .one [.sh false (.i .i64 (j:Nat))])]) (fun _=>True) (hd (Nat.zero_le _)) (by omega) ?_ (fun j e hx he hj h1 hw _=> ?_) (fun _=> ?_)
  ·simp only[go_sem,seval];exact fin' rfl
  ·rw[Klz hx]
   have hl:=Icz (X:=X) (l:=Y) (j:=j)
   have g1:((B4z X (Y.take j)).length+1)*88≤LIM:=by omega
   generalize B4z X (Y.take j)=L at hl g1 ⊢
   have c6:=hfX e.Path
   have hge:DQz X e=match D1z X e.Path with
    |none=>true
    |some o=> !eqE e o:=rfl
   generalize DQz X e=G at hge ⊢
   rcases Ghz X e.Path with⟨f1,f2⟩|⟨j2,o,f1,f2,hy⟩
   ·rw[f2]at c6
    rw[f1]at hge
    have hge:G=true:=hge
    subst hge
    rw[if_pos rfl]
    simp only[go_sem,seval,h1,hx,c6]
    refine chk (by kernel_rfl) ?_
    refine chk (by kernel_rfl) ?_
    simp only[go_sem,seval,g1,hw]
    exact fin' (by first|rfl|(simp only[List.map_append];rfl))
   ·rw[f2]at c6
    rw[f1]at hge
    have hge:G= !eqE e o:=hge
    have c7:=Kdz k (hd (by decide)) o e (hX o (List.mem_of_getElem? hy)).1
    rw[UVz]at c7
    have hj2:((j2:Int)<0)=False:=by simp
    try simp only[go_sem]at c7
    have hcs:(eqE e o=true∧G=false)∨(eqE e o=false∧G=true):=by rw[hge];cases eqE e o<;>simp
    rcases hcs with⟨q1,rfl⟩|⟨q1,rfl⟩
    all_goals
     simp only[go_sem,seval,h1,hx,c6,hj2,hy,c7,q1]
     try refine chk (by kernel_rfl) ?_
     try simp only[go_sem,seval,h1,hx,c6,hj2,hy,c7,q1]
     try refine chk (by kernel_rfl) ?_
     try simp only[go_sem,seval,g1,hw]
     try exact fin' (by first|rfl|(simp only[List.map_append];rfl)|(rw[if_neg (by decide),List.append_nil];rfl))
  ·rw[List.take_length]
   simp only[go_sem,seval]
   rfl
end
end Go.Proofs.YtblelojdboefjaaGreatDoor.R
namespace Go.Proofs.YtblelojdboefjaaGreatDoor.R
open Go
def TEntry.hv (x:TEntry):List PV:=[.t x.Path,.i .i64 x.Kind,.un,.un,.t x.First]
def holed (X Y:List TEntry) (j:Nat):List (List PV):=(Y.take j).map (fun e=>if DQz X e=true then e.hv else e.ov)++(Y.drop j).map TEntry.ov
theorem Quz {X Y:List TEntry}:holed X Y 0=Y.map TEntry.ov:=by simp[holed]
theorem SZz {X Y:List TEntry} {j:Nat}:(holed X Y j).length=Y.length:=by
 simp only[holed,List.length_append,List.length_map,List.length_take,List.length_drop];omega
theorem Saz {X Y:List TEntry} {j:Nat} {e:TEntry} (h:Y[j]? =some e):(holed X Y j)[j]? =some e.ov:=by
 have hj:=(List.getElem?_eq_some_iff.1 h).1
 unfold holed
 rw[List.getElem?_append_right (by simp only[List.length_map,List.length_take];omega)]
 simp only[List.length_map,List.length_take,List.getElem?_map,List.getElem?_drop]
 rw[show j+(j - min j Y.length)=j by omega,h];rfl
theorem Qvz {X Y:List TEntry} {j:Nat} {e:TEntry} (h:Y[j]? =some e):holed X Y (j+1)=if DQz X e=true then(holed X Y j).set j e.hv else holed X Y j:=by
 obtain⟨hj,he⟩:=List.getElem?_eq_some_iff.1 h
 have hd:Y.drop j=e::Y.drop (j+1):=by rw[List.drop_eq_getElem_cons hj,he]
 have hl:((Y.take j).map (fun e=>if DQz X e=true then e.hv else e.ov)).length=j:=by simp only[List.length_map,List.length_take];omega
 unfold holed
 rw[List.take_add_one,h,hd]
 by_cases hf:DQz X e=true
 ·rw[if_pos hf,List.set_append_right _ _ (by omega),hl]
  simp[hf]
 ·rw[if_neg hf]
  simp[hf]
def delO (d:TDelta):List CV:=[.ow false 2 (d.Attrs.map TAttr.pv),.ow false 1 (d.Gone.map spv),.ow false 5 (d.Fresh.map TEntry.ov)]
section
variable (n:Nat)
set_option maxHeartbeats 8000000 in
theorem PGz (hn:Big+50≤n) (a b:TTab) (ha:a.ok) (hb:b.ok):pcall env n 11 [.c .agg (a.pv.map AMz),.c .agg (b.pv.map AMz)] []=some ⟨.c .agg (delO (CUz a b)),[]⟩:=by
 refine walk (fn:=Tryz.f11) (d:=49) hn rfl rfl rfl (Nat.le_of_ble_eq_true rfl) fun k hd=> ?_
 unfold Tryz.f11
 have hbd:Bd=1048576:=rfl
 have hlim:LIM=70368744177664:=rfl
 have c1:=FAz k (hd (by decide)) a ha
 have c2:=FAz k (hd (by decide)) b hb
 have c3:=B9z k (hd (by decide)) b hb 1
 have c4:=JWz k (hd (by decide)) a ha
 have c5:=JWz k (hd (by decide)) b hb
 have hX:=fun e he=>E6z (e:=e) ha he
 have hY:=fun e he=>E6z (e:=e) hb he
 have lX:=E7z a
 have lY:=E7z b
 have hD:CUz a b=match AXz a&&AXz b with
  |true=>⟨DGz b,CKz (Anz b) (Anz a),B4z (Anz a) (Anz b)⟩
  |false=>⟨[],[],[]⟩:=rfl
 generalize CUz a b=D at hD ⊢
 cases hta:AXz a
 case false=>
  rw[hta]at c1 hD
  have hD:D=⟨[],[],[]⟩:=hD
  subst hD
  simp only[go_sem]at c1
  simp only[go_sem,seval,c1]
  rfl
 cases htb:AXz b
 case false=>
  rw[hta]at c1
  rw[htb]at c2
  rw[hta,htb]at hD
  have hD:D=⟨[],[],[]⟩:=hD
  subst hD
  simp only[go_sem]at c1 c2
  simp only[go_sem,seval,c1,c2]
  rfl
 rw[hta]at c1
 rw[htb]at c2
 rw[hta,htb]at hD
 have hD:D=⟨DGz b,CKz (Anz b) (Anz a),B4z (Anz a) (Anz b)⟩:=hD
 subst hD
 obtain⟨r,_,hr⟩:=GRz htb
 have hRt:DGz b=r.Attrs:=by unfold DGz;rw[hr]
 unfold atC at c3
 unfold AIz at hr
 rw[hr]at c3
 rw[hRt]
 generalize Anz a=X at c4 hX lX ⊢
 generalize Anz b=Y at c5 hY lY ⊢
 simp only[go_sem,BUz]at c1 c2 c3 c4 c5
 simp only[go_sem,seval,c1,c2,c3,c4,c5,Nat.zero_mul,Nat.zero_le,Nat.zero_add]
 refine chk (by kernel_rfl) ?_
 refine A5z X (fun j=>slots 109 [(4,.c .box [.ow false 2 [],.ow false 1 [],.ow false 5 []]),(5,.c .box [.ow false 2 (r.Attrs.map TAttr.pv),.ow false 1 ((CKz Y (X.take j)).map spv),.ow false 5 (([]:List (List PV)))]),(8,.c .one [.ow false 5 (X.map TEntry.ov)]),(9,.c .one [.ow false 5 (Y.map TEntry.ov)]),(40,.c .one [.br 8 0 [] 0 0 false 5 (X.map TEntry.ov)]),(41,.c .one [.sh false (.i .i64 (X.length:Nat))]),(42,.c .one [.sh false (.i .i64 (j:Nat))])]) (fun _=>True) (hd (Nat.zero_le _)) (by omega) ?_ (fun j e hx he hj h1 hw _=> ?_) (fun _=> ?_)
 ·simp only[go_sem,seval];exact fin' rfl
 ·rw[MNz hx]
  have hl:=Jrz (Y:=Y) (l:=X) (j:=j)
  have g1:((CKz Y (X.take j)).length+1)*16≤LIM:=by omega
  generalize CKz Y (X.take j)=L at hl g1 ⊢
  have hge:Gez Y e=match D1z Y e.Path with
   |none=>true
   |some o=> !eqE e o&& !((e.Kind==2)&&(o.Kind==2)):=rfl
  generalize Gez Y e=G at hge ⊢
  simp only[go_sem,seval,h1,hx]
  refine Bzz (Kvz k (hd (by decide)) _ _ _ _ Y (by omega) e.Path (by simp only[List.length_cons];omega) rfl rfl) ?_
  unfold atL
  rcases Ghz Y e.Path with⟨f1,f2⟩|⟨j2,o,f1,f2,hy⟩
  ·rw[f1]at hge ⊢
   have hge:G=true:=hge
   subst hge
   rw[if_pos rfl]
   simp only[go_sem,seval,g1,hw]
   exact fin' (by first|rfl|(simp only[List.map_append];rfl))
  ·rw[f1]at hge ⊢
   rw[f2]
   have hge:G=(!eqE e o&& !((e.Kind==2)&&(o.Kind==2))):=hge
   have c7:=IIz k (hd (by decide)) e o (hX e he).1
   try simp only[go_sem]at c7
   have hcs:(eqE e o=true∧G=false)∨(eqE e o=false∧(e.Kind==2)=false∧G=true)∨(eqE e o=false∧(e.Kind==2)=true∧(o.Kind==2)=false∧G=true)∨(eqE e o=false∧(e.Kind==2)=true∧(o.Kind==2)=true∧G=false):=by
    rw[hge]
    cases eqE e o<;>cases (e.Kind==2)<;>cases (o.Kind==2)<;>simp
   rcases hcs with⟨q1,rfl⟩|⟨q1,q2,rfl⟩|⟨q1,q2,q3,rfl⟩|⟨q1,q2,q3,rfl⟩
   all_goals
    simp only[go_sem,seval,c7,q1]
    try simp only[go_sem,seval,q2]
    try simp only[go_sem,seval,q3]
    try simp only[go_sem,seval,g1,hw]
    try exact fin' (by first|rfl|(simp only[List.map_append];rfl)|(rw[if_neg (by decide),List.append_nil];rfl))
 ·rw[List.take_length]
  simp only[go_sem,seval]
  generalize CKz Y X=Gn
  have hz:=Quz (X:=X) (Y:=Y)
  refine A5z Y (fun j=>slots 109 [(4,.c .box [.ow false 2 [],.ow false 1 [],.ow false 5 []]),(5,.c .box [.ow false 2 (r.Attrs.map TAttr.pv),.ow false 1 (Gn.map spv),.ow false 5 ((B4z X (Y.take j)).map TEntry.ov)]),(8,.c .one [.ow false 5 (X.map TEntry.ov)]),(9,.c .one [.ow false 5 (holed X Y j)]),(80,.c .one [.br 9 0 [] 0 0 false 5 (holed X Y j)]),(81,.c .one [.sh false (.i .i64 (Y.length:Nat))]),(82,.c .one [.sh false (.i .i64 (j:Nat))])]) (fun _=>True) (hd (Nat.zero_le _)) (by omega) ?_ (fun j e hx he hj h1 hw _=> ?_) (fun _=> ?_)
  ·simp only[go_sem,seval];exact fin' (by rw[hz];rfl)
  ·rw[Klz hx,Qvz hx]
   have hl:=Icz (X:=X) (l:=Y) (j:=j)
   have g1:((B4z X (Y.take j)).length+1)*88≤LIM:=by omega
   generalize B4z X (Y.take j)=L at hl g1 ⊢
   have hg:=Saz (X:=X) hx
   have hgl:=SZz (X:=X) (Y:=Y) (j:=j)
   generalize holed X Y j=H at hg hgl ⊢
   have hge:DQz X e=match D1z X e.Path with
    |none=>true
    |some o=> !eqE e o:=rfl
   generalize DQz X e=G at hge ⊢
   have hs1:∀r,(H.set j r)[j]? =some r:=fun r=>List.getElem?_set_self (by omega)
   simp only[go_sem,seval,h1,hg,hgl]
   refine Bzz (Kvz k (hd (by decide)) _ _ _ _ X (by omega) e.Path (by simp only[List.length_cons];omega) rfl rfl) ?_
   unfold atL
   rcases Ghz X e.Path with⟨f1,f2⟩|⟨j2,o,f1,f2,hy⟩
   ·rw[f1]at hge ⊢
    have hge:G=true:=hge
    subst hge
    rw[if_pos rfl,if_pos rfl]
    simp only[go_sem,seval,g1,hw,hg,hgl,hs1,List.set_set]
    exact fin' (by first|rfl|(simp only[List.map_append];rfl))
   ·rw[f1]at hge ⊢
    rw[f2]
    have hge:G= !eqE e o:=hge
    have c7:=IIz k (hd (by decide)) e o (hY e he).1
    try simp only[go_sem]at c7
    have hcs:(eqE e o=true∧G=false)∨(eqE e o=false∧G=true):=by rw[hge];cases eqE e o<;>simp
    rcases hcs with⟨q1,rfl⟩|⟨q1,rfl⟩
    all_goals
     simp only[go_sem,seval,c7,q1]
     try simp only[go_sem,seval,g1,hw,hg,hgl,hs1,List.set_set]
     try exact fin' (by first|rfl|(simp only[List.map_append];rfl)|(rw[if_neg (by decide),if_neg (by decide),List.append_nil];rfl))
  ·rw[List.take_length]
   simp only[go_sem,seval]
   rfl
end
end Go.Proofs.YtblelojdboefjaaGreatDoor.R
namespace Go.Proofs.YtblelojdboefjaaGreatDoor.R
open Go
theorem OAz {a b:TTab} (ha:a.ok) (hb:b.ok):(CUz a b).ok:=by
 have hD:CUz a b=match AXz a&&AXz b with
  |true=>⟨DGz b,CKz (Anz b) (Anz a),B4z (Anz a) (Anz b)⟩
  |false=>⟨[],[],[]⟩:=rfl
 have hbd:Bd=1048576:=rfl
 have lX:=E7z a
 have lY:=E7z b
 cases h:(AXz a&&AXz b)with
 |false=>
  rw[h]at hD
  rw[hD]
  exact⟨⟨(fun _ h=>nomatch h),Nat.zero_le _⟩,⟨(fun _ h=>nomatch h),Nat.zero_le _⟩,⟨(fun _ h=>nomatch h),Nat.zero_le _⟩⟩
 |true=>
  rw[h]at hD
  rw[hD]
  refine⟨M3z hb,⟨fun y hy=> ?_,?_⟩,⟨fun y hy=> ?_,?_⟩⟩
  ·obtain⟨e,he,rfl⟩:=List.mem_map.1 (show y∈(((Anz a).filter (Gez (Anz b))).map (·.Path))from hy)
   exact(E6z ha (List.mem_filter.1 he).1).1.Path
  ·have:=Jrz (Y:=Anz b) (l:=Anz a) (j:=(Anz a).length)
   rw[List.take_length]at this
   show(CKz (Anz b) (Anz a)).length≤Bd
   omega
  ·exact(E6z hb (List.mem_filter.1 (show y∈(Anz b).filter (DQz (Anz a))from hy)).1).1
  ·have:=Icz (X:=Anz a) (l:=Anz b) (j:=(Anz b).length)
   rw[List.take_length]at this
   show(B4z (Anz a) (Anz b)).length≤Bd
   omega
end Go.Proofs.YtblelojdboefjaaGreatDoor.R
namespace Go.Proofs.YtblelojdboefjaaGreatDoor.R
open Go
theorem V6z (n:Nat) (hn:Big+1≤n) (l:List UInt8) (hl:l.length≤4398046511104):pcall env n 211 [.c .one [.sh true (.s 1 ((l).map bpv))]] []=some ⟨.c .one [.sh false (.i .i64 ((crcN l:Nat):Int))],[]⟩:=by
 refine walk (fn:=Tryz.f211) (d:=0) hn rfl rfl rfl (Nat.le_of_ble_eq_true rfl) fun m hd=> ?_
 unfold Tryz.f211
 simp only[go_sem,seval]
 refine A5z l (fun j=>slots 32 [(3,.c .one [.sh false (.i .u32 ((crcL (l.take j):Nat):Int))]),(7,.c .one [.sh true (.s 1 ((l).map bpv))]),(8,.c .one [.sh false (.i .i64 (l.length:Nat))]),(9,.c .one [.sh false (.i .i64 (j:Nat))])]) (fun _=>True) (hd (Nat.zero_le _)) (by omega) ?_ (fun j x hx hm hj h1 hw _=> ?_) (fun _=> ?_)
 ·simp only[go_sem,seval];exact fin' rfl
 ·have hlt:=HAz (l.take j)
  have hxl:x.toNat<4294967296:=by have:=x.toNat_lt;omega
  have hlt2:crcL (l.take j)^^^x.toNat<4294967296:=Nat.xor_lt_two_pow (n:=32) hlt hxl
  have e0:IntKind.u32.wrap (x.toNat:Int)=x.toNat:=by rw[IntKind.wrap_u32];omega
  simp only[go_sem,seval,h1,hx,bpv,e0,LGz hlt hxl]
  refine JZz 8 (fun k=>slots 32 [(3,.c .one [.sh false (.i .u32 ((FEz (crcL (l.take j)^^^x.toNat) k:Nat):Int))]),(7,.c .one [.sh true (.s 1 ((l).map bpv))]),(8,.c .one [.sh false (.i .i64 (l.length:Nat))]),(9,.c .one [.sh false (.i .i64 (j:Nat))]),(17,.c .one [.sh false (.i .i64 (k:Nat))])]) (fun _=>True) (hd (Nat.zero_le _)) (by decide) ?_ (fun k hk h2 hw2 _=> ?_) (fun _=> ?_)
  ·simp only[go_sem,seval];exact fin' rfl
  ·have hr:=Jvz hlt2 k
   have h2':((k:Int)<8)=True:=h2
   have hR:FEz (crcL (l.take j)^^^x.toNat) (k+1)=crcR (FEz (crcL (l.take j)^^^x.toNat) k):=rfl
   rw[hR]
   generalize FEz (crcL (l.take j)^^^x.toNat) k=r at *
   have e1:=VHz hr
   have e2:BTz .shr .u32 (r:Int) 1=some (.i .u32 ((r/2:Nat):Int)):=Ylz (s:=1) (by decide) hr
   have e4:xorI .u32 ((r/2:Nat):Int) 2197175160=((r/2^^^2197175160:Nat):Int):=LGz (x:=r/2) (y:=2197175160) (by omega) (by decide)
   rcases Nat.mod_two_eq_zero_or_one r with hp|hp
   ·rw[hp]at e1
    have hR2:crcR r=r/2:=by unfold crcR;rw[if_neg (by omega)]
    rw[hR2]
    simp only[go_sem,seval,h2',e1,e2,hw2]
    exact fin' rfl
   ·rw[hp]at e1
    have hR2:crcR r=(r/2)^^^2197175160:=by unfold crcR;rw[if_pos hp]
    rw[hR2]
    simp only[go_sem,seval,h2',e1,e2,e4,hw2]
    exact fin' rfl
  ·have h2':((8:Int)<8)=False:=by simp
   simp only[go_sem,seval,hw,h2']
   rw[MSz hx];exact fin' rfl
 ·have hlt:=HAz l
  have e:xorI .u32 (if IntKind.u32.signed then -1 else IntKind.u32.max) (crcL l:Int)=((crcN l:Nat):Int):=TTz hlt
  have e2:IntKind.i64.wrap (crcN l:Int)=crcN l:=ARz (by omega) (by have:=Lfz l;omega)
  simp only[go_sem,seval,List.take_length,e,e2]
theorem V5z (n:Nat) (hn:Big+1≤n) (l:List UInt8) (hl:l.length≤4398046511104):pcall env n 137 [.c .one [.sh true (.s 1 ((l).map bpv))]] []=some ⟨.c .one [.sh false (.i .i64 ((crcN l:Nat):Int))],[]⟩:=by
 refine walk (fn:=Tryz.f137) (d:=0) hn rfl rfl rfl (Nat.le_of_ble_eq_true rfl) fun m hd=> ?_
 unfold Tryz.f137
 simp only[go_sem,seval]
 refine A5z l (fun j=>slots 34 [(0,.c .one [.sh true (.s 1 ((l).map bpv))]),(3,.c .one [.sh false (.i .i64 ((crcL (l.take j):Nat):Int))]),(4,.c .one [.sh false (.i .i64 (j:Nat))])]) (fun _=>True) (hd (Nat.zero_le _)) (by omega) ?_ (fun j x hx hm hj h1 hw _=> ?_) (fun _=> ?_)
 ·simp only[go_sem,seval];exact fin' rfl
 ·have hlt:=HAz (l.take j)
  have hxl:x.toNat<4294967296:=by have:=x.toNat_lt;omega
  have hlt2:crcL (l.take j)^^^x.toNat<4294967296:=Nat.xor_lt_two_pow (n:=32) hlt hxl
  have e0:IntKind.i64.wrap (x.toNat:Int)=x.toNat:=ARz (by omega) (by omega)
  simp only[go_sem,seval,h1,hx,bpv,e0,LFz hlt hxl]
  refine JZz 8 (fun k=>slots 34 [(0,.c .one [.sh true (.s 1 ((l).map bpv))]),(3,.c .one [.sh false (.i .i64 ((FEz (crcL (l.take j)^^^x.toNat) k:Nat):Int))]),(4,.c .one [.sh false (.i .i64 (j:Nat))]),(5,.c .one [.sh false (.i .i64 (k:Nat))])]) (fun _=>True) (hd (Nat.zero_le _)) (by decide) ?_ (fun k hk h2 hw2 _=> ?_) (fun _=> ?_)
  ·simp only[go_sem,seval];exact fin' rfl
  ·have hr:=Jvz hlt2 k
   have h2':((k:Int)<8)=True:=h2
   have hR:FEz (crcL (l.take j)^^^x.toNat) (k+1)=crcR (FEz (crcL (l.take j)^^^x.toNat) k):=rfl
   rw[hR]
   generalize FEz (crcL (l.take j)^^^x.toNat) k=r at *
   have e1:=VGz hr
   have e2:BTz .shr .i64 (r:Int) 1=some (.i .i64 ((r/2:Nat):Int)):=GLz (s:=1) (by decide) (by omega)
   have e4:xorI .i64 ((r/2:Nat):Int) 2197175160=((r/2^^^2197175160:Nat):Int):=LFz (x:=r/2) (y:=2197175160) (by omega) (by decide)
   rcases Nat.mod_two_eq_zero_or_one r with hp|hp
   ·rw[hp]at e1
    have hR2:crcR r=r/2:=by unfold crcR;rw[if_neg (by omega)]
    rw[hR2]
    simp only[go_sem,seval,h2',e1,e2,hw2]
    exact fin' rfl
   ·rw[hp]at e1
    have hR2:crcR r=(r/2)^^^2197175160:=by unfold crcR;rw[if_pos hp]
    rw[hR2]
    simp only[go_sem,seval,h2',e1,e2,e4,hw2]
    exact fin' rfl
  ·have h2':((8:Int)<8)=False:=by simp
   simp only[go_sem,seval,hw,h2']
   rw[MSz hx];exact fin' rfl
 ·have hlt:=HAz l
  have e:xorI .i64 (crcL l:Int) 4294967295=((crcN l:Nat):Int):=LFz (x:=crcL l) (y:=4294967295) hlt (by decide)
  simp only[go_sem,seval,List.take_length,e]
end Go.Proofs.YtblelojdboefjaaGreatDoor.R
namespace Go.Proofs.YtblelojdboefjaaGreatDoor.R
open Go
theorem P6z (b:List UInt8) (k:Nat):b.map bpv++[[.i .u8 ((UInt8.ofNat (k/16777216)).toNat:Int)],[.i .u8 ((UInt8.ofNat (k/65536)).toNat:Int)],[.i .u8 ((UInt8.ofNat (k/256)).toNat:Int)],[.i .u8 ((UInt8.ofNat k).toNat:Int)]]=(b++be4 k).map bpv:=by
 simp[be4,bpv]
theorem MUz {l:List UInt8}:bytes? (l.map bpv)=some l:=by
 induction l with
 |nil=>rfl
 |cons x l ih=>
  simp only[List.map_cons,bpv,bytes?]at ih ⊢
  rw[ih]
  simp
theorem Hyz (n:Nat) (hn:Big+1≤n) (f:Bool) (b:List UInt8) (h:b.length≤LIM):pcall env n 200 [.c .one [.sh f (.s 1 (b.map bpv))]] []=some ⟨.c .one [.ow false 1 (b.map bpv)],[]⟩:=by
 obtain⟨m,rfl⟩:=AEz hn
 rw[GXz (g:=Brz 1 1 true) rfl]
 simp only[Brz,go_sem]
 rw[if_pos (by omega)]
theorem Rrz (n:Nat) (hn:Big+2≤n) (b:List UInt8) (hb:b.length≤4398046511104):pcall env n 147 [.c .one [.sh true (.s 1 ((b).map bpv))]] []=some ⟨.c .one [.ow false 1 ((b++be4 (crcN b)).map bpv)],[]⟩:=by
 refine walk (fn:=Tryz.f147) (d:=1) hn rfl rfl rfl (Nat.le_of_ble_eq_true rfl) fun m hd=> ?_
 unfold Tryz.f147
 have hc:=V6z m (hd (by decide)) b hb
 have hlt:=Lfz b
 have e1:BTz .shr .i64 (crcN b:Int) 24=some (.i .i64 ((crcN b/16777216:Nat):Int)):=GLz (s:=24) (by decide) (by omega)
 have e2:BTz .shr .i64 (crcN b:Int) 16=some (.i .i64 ((crcN b/65536:Nat):Int)):=GLz (s:=16) (by decide) (by omega)
 have e3:BTz .shr .i64 (crcN b:Int) 8=some (.i .i64 ((crcN b/256:Nat):Int)):=GLz (s:=8) (by decide) (by omega)
 have hlim:LIM=70368744177664:=rfl
 have g1:=Hyz m (hd (by decide)) true b (by omega)
 have g2:b.length+4≤LIM:=by omega
 simp only[go_sem,seval,hc,e1,e2,e3,u8w,P6z,g1,g2]
end Go.Proofs.YtblelojdboefjaaGreatDoor.R
namespace Go.Proofs.YtblelojdboefjaaGreatDoor.R
open Go
def vgo:Nat→Nat→List UInt8
 |0,n=>[UInt8.ofNat n]
 |k+1,n=>if n<128 then[UInt8.ofNat n]else UInt8.ofNat (n % 128+128)::vgo k (n/128)
def Cqz (n:Int):Nat:=if n<0 then 0 else min n.toNat 1000000
def putN (b:List UInt8) (n:Int):List UInt8:=b++vgo 2 (Cqz n)
theorem OLz (n:Int):Cqz n≤1000000:=by unfold Cqz;split<;>omega
theorem POz:∀k n,(vgo k n).length≤k+1
 |0,n=>Nat.le_refl _
 |k+1,n=>by
  unfold vgo
  split
  ·simp
  ·have:=POz k (n/128);simp only[List.length_cons];omega
theorem Bfz (b:List UInt8) (n:Int):(putN b n).length≤b.length+3:=by
 unfold putN;rw[List.length_append];have:=POz 2 (Cqz n);omega
theorem HNz (b:List UInt8) (k:Nat):b.map bpv++[[.i .u8 ((UInt8.ofNat k).toNat:Int)]]=(b++[UInt8.ofNat k]).map bpv:=by simp[bpv]
theorem Ytz {x:Nat} (hx:x<128):orI .i64 (x:Int) 128=((x+128:Nat):Int):=by
 unfold orI
 rw[show(128:Int)=((128:Nat):Int)from rfl,WCz (w:=IntKind.i64.bits) (Nat.lt_trans hx (by decide)) (by decide)]
 have:x|||128=x+128:=by
  have:=Nat.shiftLeft_add_eq_or_of_lt (i:=7) (b:=x) hx 1
  rw[Nat.or_comm]
  rw[show(1:Nat)<<<7=128 from rfl]at this
  omega
 rw[this,ARz (by omega) (by omega)]
theorem Eiz (n:Nat) (hn:Big+2≤n) (b:List UInt8) (hb:b.length≤4398046511104) (v:Int):pcall env n 145 [.c .one [.sh true (.s 1 ((b).map bpv))],.c .one [.sh false (.i .i64 (v))]] []=some ⟨.c .one [.ow false 1 ((putN b v).map bpv)],[]⟩:=by
 refine walk (fn:=Tryz.f145) (d:=1) hn rfl rfl rfl (Nat.le_of_ble_eq_true rfl) fun m hd=> ?_
 unfold Tryz.f145
 have hlim:LIM=70368744177664:=rfl
 have hB:Big=9223372036854775808:=rfl
 have hm:=hd (Nat.zero_le _)
 have hc:=Hyz m (hd (by decide)) true b (by omega)
 have hcl:=OLz v
 have e0:(if(if(1000000:Int)<v then(1000000:Int)else v)>0 then(if(1000000:Int)<v then(1000000:Int)else v)else 0)=((Cqz v:Nat):Int):=by
  unfold Cqz
  split<;>split<;>(try split)<;>omega
 simp only[go_sem,seval,hc,e0]
 refine AFz (fun k τ=>∃(x:Nat) (out:List UInt8),x<128^(k+1)∧k≤2∧out++vgo k x=putN b v∧out.length≤b.length+2 - k∧x≤1000000∧τ=slots 27 [(1,.c .one [.sh false (.i .i64 (x:Nat))]),(5,.c .one [.ow false 1 (out.map bpv)])]) 2 (by omega) ?_ ?_
 ·simp only[go_sem,seval]
  exact⟨Cqz v,b,by omega,rfl,Nat.le_refl _,hcl,rfl⟩
 ·rintro k τ ⟨x,out,hx,hk,ho,hl,hx2,rfl⟩
  by_cases h1:x<128
  ·have h1':((x:Int)≥128)=False:=by simp only[eq_iff_iff,iff_false];omega
   have g1:out.length+1≤LIM:=by omega
   have ho':out++[UInt8.ofNat x]=putN b v:=by
    rw[←ho]
    cases k with
    |zero=>rfl
    |succ k=>unfold vgo;rw[if_pos h1]
   simp only[go_sem,seval,h1',u8w,HNz,g1,ho']
  ·have h1':((x:Int)≥128)=True:=by simp only[eq_iff_iff,iff_true];omega
   have g1:out.length+1≤LIM:=by omega
   obtain⟨k,rfl⟩:∃k',k=k'+1:=by
    cases k with
    |zero=>omega
    |succ k=>exact⟨k,rfl⟩
   have w1:IntKind.i64.wrap ((x:Int).tmod 128+128)=((x % 128+128:Nat):Int):=by
    rw[show(x:Int).tmod 128=((x % 128:Nat):Int)from rfl,ARz (by omega) (by omega)];omega
   have w2:IntKind.i64.wrap ((x:Int).tdiv 128)=((x/128:Nat):Int):=by
    rw[show(x:Int).tdiv 128=((x/128:Nat):Int)from rfl,ARz (by omega) (by omega)]
   unfold vgo at ho
   rw[if_neg h1]at ho
   simp only[go_sem,seval,h1',w1,w2,u8w,HNz,g1]
   refine⟨k,Nat.lt_succ_self _,x/128,out++[UInt8.ofNat (x % 128+128)],?_,by omega,by rw[←ho,List.append_assoc];rfl,by rw[List.length_append];simp only[List.length_cons,List.length_nil];omega,by omega,rfl⟩
   rw[Nat.pow_succ]at hx
   omega
theorem Ehz (n:Nat) (hn:Big+1≤n) (b:List UInt8) (hb:b.length≤4398046511104) (v:Int):pcall env n 134 [.c .one [.sh true (.s 1 ((b).map bpv))],.c .one [.sh false (.i .i64 (v))]] []=some ⟨.c .one [.ow false 1 ((putN b v).map bpv)],[]⟩:=by
 refine walk (fn:=Tryz.f134) (d:=0) hn rfl rfl rfl (Nat.le_of_ble_eq_true rfl) fun m hd=> ?_
 unfold Tryz.f134
 have hlim:LIM=70368744177664:=rfl
 have hB:Big=9223372036854775808:=rfl
 have hm:=hd (Nat.zero_le _)
 have hcl:=OLz v
 have g0:b.length≤LIM:=by omega
 have l1:((1000000:Int)<0)=False:=by decide
 have hc3:(((v>1000000)=True∧(v<0)=False)∧((Cqz v:Nat):Int)=1000000)∨(((v>1000000)=False∧(v<0)=True)∧((Cqz v:Nat):Int)=0)∨(((v>1000000)=False∧(v<0)=False)∧((Cqz v:Nat):Int)=v):=by
  simp only[eq_iff_iff,iff_true,iff_false]
  by_cases c1:v>1000000
  ·refine Or.inl ⟨⟨c1,by omega⟩,?_⟩
   unfold Cqz;split<;>omega
  ·by_cases c2:v<0
   ·refine Or.inr (Or.inl ⟨⟨c1,c2⟩,?_⟩)
    unfold Cqz;split<;>omega
   ·refine Or.inr (Or.inr ⟨⟨c1,c2⟩,?_⟩)
    unfold Cqz;split<;>omega
 rcases hc3 with⟨⟨c1,c2⟩,e1⟩|⟨⟨c1,c2⟩,e1⟩|⟨⟨c1,c2⟩,e1⟩
 all_goals
  simp only[go_sem,seval,g0,c1,c2,l1]
  refine AFz (fun k τ=>∃(x:Nat) (out:List UInt8),x<128^(k+1)∧k≤2∧out++vgo k x=putN b v∧out.length≤b.length+2 - k∧x≤1000000∧τ=slots 29 [(1,.c .one [.sh false (.i .i64 (x:Nat))]),(5,.c .one [.ow false 1 (out.map bpv)])]) 2 (by omega) ?_ ?_
  ·simp only[go_sem,seval]
   refine⟨Cqz v,b,by omega,rfl,Nat.le_refl _,hcl,?_⟩
   rw[e1]
  ·rintro k τ ⟨x,out,hx,hk,ho,hl,hx2,rfl⟩
   by_cases h1:x<128
   ·have h1':((x:Int)>127)=False:=by simp only[eq_iff_iff,iff_false];omega
    have g1:out.length+1≤LIM:=by omega
    have ho':out++[UInt8.ofNat x]=putN b v:=by
     rw[←ho]
     cases k with
     |zero=>rfl
     |succ k=>unfold vgo;rw[if_pos h1]
    simp only[go_sem,seval,h1',u8w,HNz,g1,ho']
   ·have h1':((x:Int)>127)=True:=by simp only[eq_iff_iff,iff_true];omega
    have g1:out.length+1≤LIM:=by omega
    obtain⟨k,rfl⟩:∃k',k=k'+1:=by
     cases k with
     |zero=>omega
     |succ k=>exact⟨k,rfl⟩
    have w1:andI .i64 (x:Int) 127=((x % 128:Nat):Int):=by
     unfold andI
     rw[show(127:Int)=((127:Nat):Int)from rfl,Jyz (w:=IntKind.i64.bits) (Nat.lt_trans (Nat.lt_of_le_of_lt hx2 (by decide)) (by decide:1000001<2^IntKind.i64.bits)) (by decide),show x&&&127=x % 2^7 from Nat.and_two_pow_sub_one_eq_mod x 7,ARz (by omega) (by omega)]
    have w1':=Ytz (x:=x % 128) (by omega)
    have w2:BTz .shr .i64 (x:Int) 7=some (.i .i64 ((x/128:Nat):Int)):=GLz (r:=x) (s:=7) (by decide) (by omega)
    unfold vgo at ho
    rw[if_neg h1]at ho
    simp only[go_sem,seval,h1',w1,w1',w2,u8w,HNz,g1]
    refine⟨k,Nat.lt_succ_self _,x/128,out++[UInt8.ofNat (x % 128+128)],?_,by omega,by rw[←ho,List.append_assoc];rfl,by rw[List.length_append];simp only[List.length_cons,List.length_nil];omega,by omega,rfl⟩
    rw[Nat.pow_succ]at hx
    omega
end Go.Proofs.YtblelojdboefjaaGreatDoor.R
namespace Go.Proofs.YtblelojdboefjaaGreatDoor.R
open Go
def Ibz (l:List UInt8):Bool:=match BJz l with
 |some (_::_)=>true
 |_=>false
def CIz (s:ByteArray):Bool:=Ibz s.data.toList
theorem Owz {l:List UInt8} {ps:List (List UInt8)} (h:BJz l=some ps):ps.length≤30∧∀p∈ps,p.length≤14:=by
 unfold BJz at h
 split at h
 ·injection h with h;subst h;exact⟨Nat.zero_le _,by simp⟩
 ·split at h
  ·split at h
   ·rename_i hb
    injection h with h;subst h
    simp only[Bool.and_eq_true,decide_eq_true_eq,List.all_eq_true]at hb
    refine⟨hb.1,fun q hq=> ?_⟩
    have:=hb.2 q hq
    simp only[BAz,Fsz,Bool.and_eq_true,decide_eq_true_eq]at this
    exact this.2.1.1.2
   ·simp at h
  ·simp at h
theorem Hdz (n:Nat) (hn:Big+8≤n) (s:ByteArray) (hs:s.size≤Bd):pcall env n 164 [pvSV (.t s)] []=some ⟨pvSV (.b (CIz s)),[]⟩:=by
 obtain⟨m,rfl⟩:=AEz hn
 obtain⟨⟨l⟩⟩:=s
 have hc:=IEz m (deep hn (by decide)) l hs
 rw[show CIz ⟨⟨l⟩⟩=Ibz l from rfl]
 unfold Ibz
 cases hp:BJz l with
 |none=>
  rw[hp]at hc
  simp only[go_sem,DOz]at hc
  refine ANz (ADz (fn:=Tryz.f164) rfl rfl rfl (Nat.le_of_ble_eq_true rfl) ?_)
  unfold Tryz.f164
  simp only[go_sem,seval,hc]
 |some ps=>
  rw[hp]at hc
  cases ps with
  |nil=>
   simp only[go_sem,DOz]at hc
   refine ANz (ADz (fn:=Tryz.f164) rfl rfl rfl (Nat.le_of_ble_eq_true rfl) ?_)
   unfold Tryz.f164
   simp only[go_sem,seval,hc]
  |cons p ps=>
   simp only[go_sem,DOz]at hc
   have hgt:(((ps.length+1:Nat):Int)>0):=by omega
   refine ANz (ADz (fn:=Tryz.f164) rfl rfl rfl (Nat.le_of_ble_eq_true rfl) ?_)
   unfold Tryz.f164
   simp only[go_sem,seval,hc,hgt]
theorem O5z (n:Nat) (hn:Big+3≤n) (l:List (List UInt8)) (hl:l.length≤30) (ho:∀p∈l,p.length≤14):∃t:ByteArray,pcall env n 213 [.c .one [.sh true (.s 1 (l.map ppv))]] []=some ⟨pvSV (.t t),[]⟩:=by
 obtain⟨m,rfl⟩:=AEz hn
 have hB:=ASz
 have hbd:Bd=1048576:=rfl
 suffices h: @Wq _ (pcall env (m+1) 213 [.c .one [.sh true (.s 1 (l.map ppv))]] []) ⟨fun r=>∃t,r=⟨pvSV (.t t),[]⟩⟩by
  obtain⟨r,h1,t,h2⟩:=h;exact⟨t,by rw[h1,h2]⟩
 refine ADz (fn:=Tryz.f213) rfl rfl rfl (Nat.le_of_ble_eq_true rfl) ?_
 unfold Tryz.f213
 by_cases h0:l.length=0
 ·have h0':((l.length:Int)==0)=true:=by rw[beq_iff_eq];omega
  simp only[go_sem,seval,h0']
  exact⟨_,rfl⟩
 ·have h0':((l.length:Int)==0)=false:=by rw[beq_eq_false_iff_ne];omega
  simp only[go_sem,seval,h0']
  refine AFz (fun k σ=>∃(j:Nat) (s:ByteArray),j≤l.length∧k=l.length - j∧s.size≤j*15∧σ=slots 33 [(0,.c .one [.sh true (.s 1 (l.map ppv))]),(3,.c .one [.sh false (.t s)]),(4,.c .one [.sh false (.i .i64 (j:Nat))])]) l.length (by omega) ?_ ?_
  ·simp only[go_sem,seval]
   exact⟨0,⟨⟨[]⟩⟩,Nat.zero_le _,rfl,Nat.le_refl _,rfl⟩
  ·rintro k σ ⟨j,s,hj,rfl,hs,rfl⟩
   by_cases hlt:j<l.length
   ·have h1:((j:Int)<(l.length:Int)):=by omega
    have hx:l[j]? =some l[j]:=List.getElem?_eq_getElem hlt
    have hok:=ho _ (List.getElem_mem hlt)
    generalize l[j]=p at hx hok
    have hc:=D7z m (deep hn (by decide)) ⟨⟨p⟩⟩ (by show p.length≤Bd;omega)
    simp only[go_sem,BYz]at hc
    have h30:¬((l.length:Int)>30):=by omega
    cases hb:BAz p
    ·simp only[go_sem,seval,h1,hx,hc,hb]
     exact⟨_,rfl⟩
    ·simp only[go_sem,seval,h1,hx,hc,hb,h30,ACz hlt (by omega)]
     repeat (first|(refine BNz (by omega) ?_;simp only[go_sem,seval,h1,hx,hc,hb,h30,ACz hlt (by omega)])|(refine EDz (by omega) ?_;simp only[go_sem,seval,h1,hx,hc,hb,h30,ACz hlt (by omega)])|(refine EDz (by simp only[ByteArray.size_append,Csz,List.length_cons,List.length_nil,Nrz];omega) ?_;simp only[go_sem,seval,h1,hx,hc,hb,h30,ACz hlt (by omega)]))
     exact⟨_,by omega,j+1,_,hlt,rfl,by simp only[ByteArray.size_append,Csz,List.length_cons,List.length_nil];omega,rfl⟩
   ·have h1:¬((j:Int)<(l.length:Int)):=by omega
    simp only[go_sem,seval,h1]
    exact⟨_,rfl⟩
theorem Gsz (n:Nat) (hn:Big+4≤n) (s:ByteArray) (hs:s.size≤Bd):∃a b:ByteArray,pcall env n 152 [pvSV (.t s)] []=some ⟨.c (.tup [(false,1),(false,1),(false,1)]) [.sh false (.t a),.sh false (.t b),.sh false (.b (CIz s))],[]⟩:=by
 obtain⟨m,rfl⟩:=AEz hn
 obtain⟨⟨l⟩⟩:=s
 have hc:=ICz m (deep hn (by decide)) l hs
 simp only[show CIz ⟨⟨l⟩⟩=Ibz l from rfl]
 unfold Ibz
 cases hp:BJz l with
 |none=>
  rw[hp]at hc
  simp only[go_sem,Ciz]at hc
  refine⟨⟨⟨[]⟩⟩,⟨⟨[]⟩⟩,?_⟩
  refine ANz (ADz (fn:=Tryz.f152) rfl rfl rfl (Nat.le_of_ble_eq_true rfl) ?_)
  unfold Tryz.f152
  simp only[go_sem,seval,hc]
 |some ps=>
  rw[hp]at hc
  obtain⟨h30,h14⟩:=Owz hp
  cases ps with
  |nil=>
   simp only[go_sem,Ciz]at hc
   refine⟨⟨⟨[]⟩⟩,⟨⟨[]⟩⟩,?_⟩
   refine ANz (ADz (fn:=Tryz.f152) rfl rfl rfl (Nat.le_of_ble_eq_true rfl) ?_)
   unfold Tryz.f152
   simp only[go_sem,seval,hc]
  |cons p ps=>
   obtain⟨q,hq⟩:∃q,(p::ps)[ps.length]? =some q:=⟨_,List.getElem?_eq_getElem (by simp)⟩
   obtain⟨tj,hj⟩:=O5z m (deep hn (by decide)) ((p::ps).take ps.length) (by rw[List.length_take];omega) (fun r hr=>h14 r (List.mem_of_mem_take hr))
   obtain⟨c1,hc1⟩:∃c1,c1=ps.length+1:=⟨_,rfl⟩
   have hlen:(p::ps).length=c1:=by rw[hc1];rfl
   dsimp only
   generalize p::ps=pl at hc hj hq hlen h30
   simp only[go_sem,Ciz]at hc hj
   have hz:((c1:Int)==0)=false:=by rw[beq_eq_false_iff_ne];omega
   have hw:IntKind.i64.wrap ((c1:Int) - 1)=((ps.length:Nat):Int):=by rw[ARz (by omega) (by omega)];omega
   have hle:((ps.length:Int)≤(c1:Int)):=by omega
   rw[List.map_take]at hj
   refine⟨tj,⟨⟨q⟩⟩,?_⟩
   refine ANz (ADz (fn:=Tryz.f152) rfl rfl rfl (Nat.le_of_ble_eq_true rfl) ?_)
   unfold Tryz.f152
   simp only[go_sem,seval,hc,hz,hlen,hw,hle,hj,hq]
   exact chk1 (by kernel_rfl)
end Go.Proofs.YtblelojdboefjaaGreatDoor.R
namespace Go.Proofs.YtblelojdboefjaaGreatDoor.R
open Go
def Erz (e:TEntry):Bool:=CIz e.Path&&inB e.Kind 1 2&& !(decide ((e.Data.length:Int)>100))&&BXz e.Attrs&& !(!(A1z e.First e.Path||e.First.toList==e.Path.toList))&&((e.Kind==1)||((e.Data.length:Int)==0)&&(e.First.toList==e.Path.toList))
set_option maxHeartbeats 1000000 in
theorem Ldz (n:Nat) (hn:Big+9≤n) (e:TEntry) (he:e.ok):pcall env n 165 [.c .agg (e.pv.map AMz)] []=some ⟨pvSV (.b (Erz e)),[]⟩:=by
 obtain⟨m,rfl⟩:=AEz hn
 have hin:=fun a b c=>Fuz m (deep hn (by decide)) a b c
 have hpar:=Hdz m (deep hn (by decide)) e.Path he.Path
 have hat:=GHz m (deep hn (by decide)) e.Attrs he.Attrs.1 he.Attrs.2
 simp only[go_sem]at hin hpar hat
 unfold Erz
 refine ANz (ADz (fn:=Tryz.f165) rfl rfl rfl (Nat.le_of_ble_eq_true rfl) ?_)
 unfold Tryz.f165
 cases b1:CIz e.Path with
 |false=>simp only[go_sem,seval,hpar,b1]<;>exact chk1 (by kernel_rfl)
 |true=>
  cases b2:inB e.Kind 1 2 with
  |false=>
   unfold inB at b2
   simp only[go_sem,seval,hpar,b1,hin,b2]<;>exact chk1 (by kernel_rfl)
  |true=>
   unfold inB at b2
   by_cases b3:((e.Data.length:Int)>100)
   ·simp only[go_sem,seval,hpar,b1,hin,b2,b3]<;>exact chk1 (by kernel_rfl)
   ·cases b4:BXz e.Attrs with
    |false=>simp only[go_sem,seval,hpar,b1,hin,b2,b3,hat,b4]<;>exact chk1 (by kernel_rfl)
    |true=>
     unfold A1z
     cases b5:(Op.bytesLess e.First.toList e.Path.toList||e.First.toList==e.Path.toList)with
     |false=>simp only[go_sem,seval,hpar,b1,hin,b2,b3,hat,b4,b5]<;>exact chk1 (by kernel_rfl)
     |true=>
      cases b6:(e.Kind==1)with
      |true=>simp only[go_sem,seval,hpar,b1,hin,b2,b3,hat,b4,b5,b6]<;>exact chk1 (by kernel_rfl)
      |false=>
       cases b7:((e.Data.length:Int)==0)with
       |false=>simp only[go_sem,seval,hpar,b1,hin,b2,b3,hat,b4,b5,b6,b7]<;>exact chk1 (by kernel_rfl)
       |true=>simp only[go_sem,seval,hpar,b1,hin,b2,b3,hat,b4,b5,b6,b7]<;>exact chk1 (by kernel_rfl)
set_option maxHeartbeats 1000000 in
theorem Lcz (n:Nat) (hn:Big+9≤n) (e:TEntry) (he:e.ok):pcall env n 153 [.c .agg (e.pv.map AMz)] []=some ⟨pvSV (.b (Erz e)),[]⟩:=by
 obtain⟨m,rfl⟩:=AEz hn
 have hin:=fun a b c=>E2z m (deep hn (by decide)) a b c
 obtain⟨pa,pb,hpar⟩:=Gsz m (deep hn (by decide)) e.Path he.Path
 have hat:=GGz m (deep hn (by decide)) e.Attrs he.Attrs.1 he.Attrs.2
 simp only[go_sem]at hin hpar hat
 unfold Erz
 refine ANz (ADz (fn:=Tryz.f153) rfl rfl rfl (Nat.le_of_ble_eq_true rfl) ?_)
 unfold Tryz.f153
 cases b1:CIz e.Path with
 |false=>simp only[go_sem,seval,hpar,b1]<;>exact chk1 (by kernel_rfl)
 |true=>
  cases b2:inB e.Kind 1 2 with
  |false=>
   unfold inB at b2
   simp only[go_sem,seval,hpar,b1,hin,b2]<;>exact chk1 (by kernel_rfl)
  |true=>
   unfold inB at b2
   by_cases b3:((e.Data.length:Int)>100)
   ·simp only[go_sem,seval,hpar,b1,hin,b2,b3]<;>exact chk1 (by kernel_rfl)
   ·cases b4:BXz e.Attrs with
    |false=>simp only[go_sem,seval,hpar,b1,hin,b2,b3,hat,b4]<;>exact chk1 (by kernel_rfl)
    |true=>
     unfold A1z
     cases b5:(Op.bytesLess e.First.toList e.Path.toList||e.First.toList==e.Path.toList)with
     |false=>simp only[go_sem,seval,hpar,b1,hin,b2,b3,hat,b4,b5]<;>exact chk1 (by kernel_rfl)
     |true=>
      cases b6:(e.Kind==1)with
      |true=>simp only[go_sem,seval,hpar,b1,hin,b2,b3,hat,b4,b5,b6]<;>exact chk1 (by kernel_rfl)
      |false=>
       cases b7:((e.Data.length:Int)==0)with
       |false=>simp only[go_sem,seval,hpar,b1,hin,b2,b3,hat,b4,b5,b6,b7]<;>exact chk1 (by kernel_rfl)
       |true=>simp only[go_sem,seval,hpar,b1,hin,b2,b3,hat,b4,b5,b6,b7]<;>exact chk1 (by kernel_rfl)
end Go.Proofs.YtblelojdboefjaaGreatDoor.R
namespace Go.Proofs.YtblelojdboefjaaGreatDoor.R
open Go
def Cdz (l:List ByteArray) (i:Nat):Bool:=match l[i]? with
 |some s=>CIz s&&(if i=0 then true else match l[i - 1]? with
  |some y=>A1z y s
  |none=>true)
 |none=>true
def CXz (l:List TEntry) (i:Nat):Bool:=match l[i]? with
 |some e=>Erz e&&CIz e.First
 |none=>true
def C2z (l:List TEntry) (i:Nat):Bool:=match l[i]? with
 |some e=>if i=0 then true else match l[i - 1]? with
  |some y=>A1z y.Path e.Path
  |none=>true
 |none=>true
def BDz (d:TDelta):Bool:=BXz d.Attrs&& !decide ((d.Gone.length:Int)>200)&& !decide ((d.Fresh.length:Int)>200)&&allB d.Gone.length (Cdz d.Gone)&&allB d.Fresh.length (CXz d.Fresh)&&allB d.Fresh.length (C2z d.Fresh)
theorem I1z {P:Nat→Prop} {j:Nat} (hp:∀i,i<j→P i) (e:P j):∀i,i<j+1→P i:=fun i hi=>by
 rcases Nat.lt_succ_iff_lt_or_eq.1 hi with h|h
 ·exact hp i h
 ·subst h;exact e
section
variable {l:List ByteArray} {r:List TEntry} {j:Nat} {s y:ByteArray} {e f:TEntry}
theorem Nyz (h:l[j]? =some s) (h0:j=0):Cdz l j=CIz s:=by simp only[Cdz,h,if_pos h0,Bool.and_true]
theorem Nwz (h:l[j]? =some s) (h0:j≠0) (hy:l[j - 1]? =some y):Cdz l j=(CIz s&&A1z y s):=by simp only[Cdz,h,if_neg h0,hy]
theorem Nxz (h:l[j]? =some s) (hb:CIz s=false):Cdz l j=false:=by simp only[Cdz,h,hb,Bool.false_and]
theorem Diz (h:r[j]? =some e):CXz r j=(Erz e&&CIz e.First):=by simp only[CXz,h]
theorem M5z (h:r[j]? =some e) (h0:j=0):C2z r j=true:=by simp only[C2z,h,if_pos h0]
theorem M4z (h:r[j]? =some e) (h0:j≠0) (hy:r[j - 1]? =some f):C2z r j=A1z f.Path e.Path:=by simp only[C2z,h,if_neg h0,hy]
end
set_option maxHeartbeats 1000000 in
theorem Lzz (n:Nat) (hn:Big+1≤n) (l:List TEntry) (hl:l.length≤Bd):pcall env n 167 [.c .one [.sh true (.s 5 (l.map TEntry.pv))]] []=some ⟨pvSV (.b (allB l.length (C2z l)&&decide ((l.length:Int)≤200))),[]⟩:=by
 obtain⟨m,rfl⟩:=AEz hn
 have hB:=ASz
 have hbd:Bd=1048576:=rfl
 refine ANz (ADz (fn:=Tryz.f167) rfl rfl rfl (Nat.le_of_ble_eq_true rfl) ?_)
 unfold Tryz.f167
 simp only[go_sem,seval]
 refine AFz (fun k σ=>∃j:Nat,1≤j∧k=l.length+1 - j∧j≤l.length+1∧(∀i,i<j→i<l.length→C2z l i=true)∧σ=slots 25 [(0,.c .one [.sh true (.s 5 (l.map TEntry.pv))]),(3,.c .one [.sh false (.i .i64 (j:Nat))])]) l.length (by omega) ?_ ?_
 ·simp only[go_sem,seval]
  refine⟨1,Nat.le_refl _,rfl,by omega,fun i hi hl=> ?_,rfl⟩
  obtain rfl:i=0:=by omega
  exact M5z (List.getElem?_eq_getElem hl) rfl
 ·rintro k σ ⟨j,hj1,rfl,hj,hp,rfl⟩
  by_cases hlt:j<l.length
  ·have h1:((j:Int)<(l.length:Int)):=by omega
   have hx:l[j]? =some l[j]:=List.getElem?_eq_getElem hlt
   generalize l[j]=e at hx
   have hy:l[j - 1]? =some l[j - 1]:=List.getElem?_eq_getElem (by omega)
   generalize l[j - 1]=y at hy
   have ee:=M4z hx (by omega) hy
   obtain⟨j',hj'⟩:∃j',j'=j - 1:=⟨_,rfl⟩
   rw[←hj']at hy
   have ws:IntKind.i64.wrap ((j:Int) - 1)=(j':Int):=by rw[ARz (by omega) (by omega)];omega
   cases b3:A1z y.Path e.Path with
   |false=>
    rw[A8z hlt (by rw[ee,b3]),Bool.false_and]
    unfold A1z at b3
    simp only[go_sem,seval,h1,hx,ws,hy,b3]<;>exact chk1 (by kernel_rfl)
   |true=>
    rw[b3]at ee
    unfold A1z at b3
    simp only[go_sem,seval,h1,hx,ws,hy,b3,ACz hlt (by omega)]
    refine chk (by kernel_rfl) ⟨_,by omega,j+1,by omega,rfl,by omega,fun i hi hl=> ?_,rfl⟩
    rcases Nat.lt_succ_iff_lt_or_eq.1 hi with h|h
    ·exact hp i h hl
    ·subst h;exact ee
  ·have h1:¬((j:Int)<(l.length:Int)):=by omega
   rw[BRz fun i hi=>hp i (by omega) hi,Bool.true_and]
   simp only[go_sem,seval,h1]
set_option maxHeartbeats 4000000 in
theorem ODz (n:Nat) (hn:Big+10≤n) (d:TDelta) (hd:d.ok):pcall env n 83 [.c .agg (d.pv.map AMz)] []=some ⟨pvSV (.b (BDz d)),[]⟩:=by
 obtain⟨m,rfl⟩:=AEz hn
 have hB:=ASz
 have hbd:Bd=1048576:=rfl
 have hat:=GHz m (deep hn (by decide)) d.Attrs hd.Attrs.1 hd.Attrs.2
 have hri:=Lzz m (deep hn (by decide)) d.Fresh hd.Fresh.2
 have hlg:=hd.Gone.2
 have hlf:=hd.Fresh.2
 simp only[go_sem]at hat hri
 refine ANz (ADz (fn:=Tryz.f83) rfl rfl rfl (Nat.le_of_ble_eq_true rfl) ?_)
 unfold Tryz.f83
 simp only[go_sem,seval]
 refine AFz (fun k σ=>∃j:Nat,j≤d.Gone.length∧k=d.Gone.length - j∧(∀i,i<j→Cdz d.Gone i=true)∧σ=slots 64 [(1,.c .box [.sh true (.s 2 (d.Attrs.map TAttr.pv)),.sh true (.s 1 (d.Gone.map spv)),.sh true (.s 5 (d.Fresh.map TEntry.pv))]),(8,.c .one [.sh true (.s 1 (d.Gone.map spv))]),(9,.c .one [.sh false (.i .i64 (d.Gone.length:Nat))]),(10,.c .one [.sh false (.i .i64 (j:Nat))])]) d.Gone.length (by omega) ?_ ?_
 ·simp only[go_sem,seval]
  exact⟨0,Nat.zero_le _,rfl,fun i hi=>absurd hi (Nat.not_lt_zero _),rfl⟩
 ·rintro k σ ⟨j,hj,rfl,hp,rfl⟩
  by_cases hlt:j<d.Gone.length
  ·have h1:((j:Int)<(d.Gone.length:Int)):=by omega
   have hx:d.Gone[j]? =some d.Gone[j]:=List.getElem?_eq_getElem hlt
   have hok:=hd.Gone.1 _ (List.getElem_mem hlt)
   generalize d.Gone[j]=s at hx hok
   have hc:=Hdz m (deep hn (by decide)) s hok
   simp only[go_sem]at hc
   have step:Cdz d.Gone j=true→∀i,i<j+1→Cdz d.Gone i=true:=fun e=>I1z hp e
   have bad:Cdz d.Gone j=false→BDz d=false:=fun e=>by unfold BDz;rw[A8z hlt e];simp only[Bool.and_false,Bool.false_and]
   cases b4:CIz s with
   |false=>
    rw[bad (Nxz hx b4)]
    simp only[go_sem,seval,h1,hx,hc,b4]<;>exact chk1 (by kernel_rfl)
   |true=>
    by_cases h0:j=0
    ·have hgt:¬((j:Int)>0):=by omega
     simp only[go_sem,seval,h1,hx,hc,b4,hgt,ACz hlt (by omega)]
     exact⟨_,by omega,j+1,hlt,rfl,step (by rw[Nyz hx h0,b4]),rfl⟩
    ·have hgt:((j:Int)>0):=by omega
     have hy:d.Gone[j - 1]? =some d.Gone[j - 1]:=List.getElem?_eq_getElem (by omega)
     generalize d.Gone[j - 1]=y at hy
     have ee:=Nwz hx h0 hy
     rw[b4,Bool.true_and]at ee
     obtain⟨j',hj'⟩:∃j',j'=j - 1:=⟨_,rfl⟩
     rw[←hj']at hy
     have ws:IntKind.i64.wrap ((j:Int) - 1)=(j':Int):=by rw[ARz (by omega) (by omega)];omega
     cases b6:A1z y s with
     |false=>
      rw[bad (by rw[ee,b6])]
      unfold A1z at b6
      simp only[go_sem,seval,h1,hx,hc,b4,hgt,ws,hy,b6]<;>exact chk1 (by kernel_rfl)
     |true=>
      rw[b6]at ee
      unfold A1z at b6
      simp only[go_sem,seval,h1,hx,hc,b4,hgt,ws,hy,b6,ACz hlt (by omega)]
      exact⟨_,by omega,j+1,hlt,rfl,step ee,rfl⟩
  ·have h1:¬((j:Int)<(d.Gone.length:Int)):=by omega
   obtain rfl:j=d.Gone.length:=by omega
   have hpg:=hp
   simp only[go_sem,seval,h1]
   clear hp h1 hlt hj
   refine AFz (fun k σ=>∃j:Nat,j≤d.Fresh.length∧k=d.Fresh.length - j∧(∀i,i<j→CXz d.Fresh i=true)∧σ=slots 64 [(1,.c .box [.sh true (.s 2 (d.Attrs.map TAttr.pv)),.sh true (.s 1 (d.Gone.map spv)),.sh true (.s 5 (d.Fresh.map TEntry.pv))]),(34,.c .one [.sh true (.s 5 (d.Fresh.map TEntry.pv))]),(35,.c .one [.sh false (.i .i64 (d.Fresh.length:Nat))]),(36,.c .one [.sh false (.i .i64 (j:Nat))])]) d.Fresh.length (by omega) ?_ ?_
   ·simp only[go_sem,seval]
    exact⟨0,Nat.zero_le _,rfl,fun i hi=>absurd hi (Nat.not_lt_zero _),rfl⟩
   ·rintro k σ ⟨j,hj,rfl,hp,rfl⟩
    by_cases hlt:j<d.Fresh.length
    ·have h1:((j:Int)<(d.Fresh.length:Int)):=by omega
     have hx:d.Fresh[j]? =some d.Fresh[j]:=List.getElem?_eq_getElem hlt
     have hok:=hd.Fresh.1 _ (List.getElem_mem hlt)
     generalize d.Fresh[j]=e at hx hok
     have hc:=Hdz m (deep hn (by decide)) e.First hok.First
     have hen:=Ldz m (deep hn (by decide)) e hok
     simp only[go_sem]at hc hen
     have step:CXz d.Fresh j=true→∀i,i<j+1→CXz d.Fresh i=true:=fun e=>I1z hp e
     have bad:allB d.Fresh.length (CXz d.Fresh)=false→BDz d=false:=fun e=>by unfold BDz;rw[e];simp only[Bool.and_false,Bool.false_and]
     cases b4:Erz e with
     |false=>
      rw[bad (by rw[A8z hlt (by rw[Diz hx,b4];rfl)])]
      simp only[go_sem,seval,h1,hx,hen,b4]
     |true=>
      cases b5:CIz e.First with
      |false=>
       rw[bad (by rw[A8z hlt (by rw[Diz hx,b4,b5];rfl)])]
       simp only[go_sem,seval,h1,hx,hen,b4,hc,b5]
      |true=>
       simp only[go_sem,seval,h1,hx,hen,b4,hc,b5,ACz hlt (by omega)]
       exact⟨_,by omega,j+1,hlt,rfl,step (by rw[Diz hx,b4,b5];rfl),rfl⟩
    ·have h1:¬((j:Int)<(d.Fresh.length:Int)):=by omega
     obtain rfl:j=d.Fresh.length:=by omega
     have eg:BDz d=(BXz d.Attrs&& !decide ((d.Gone.length:Int)>200)&& !decide ((d.Fresh.length:Int)>200)&&allB d.Fresh.length (C2z d.Fresh)):=by
      unfold BDz;rw[BRz hpg,BRz hp,Bool.and_true,Bool.and_true]
     rw[eg]
     cases b1:BXz d.Attrs with
     |false=>simp only[go_sem,seval,h1,hat,b1]
     |true=>
      by_cases b2:((d.Gone.length:Int)≤200)
      ·have b2':¬((d.Gone.length:Int)>200):=by omega
       by_cases b3:((d.Fresh.length:Int)≤200)
       ·have b3':¬((d.Fresh.length:Int)>200):=by omega
        simp only[go_sem,seval,h1,hat,b1,b2,b2',b3,b3',hri]
       ·have b3':((d.Fresh.length:Int)>200):=by omega
        simp only[go_sem,seval,h1,hat,b1,b2,b2',b3,b3',hri]
      ·have b2':((d.Gone.length:Int)>200):=by omega
       simp only[go_sem,seval,h1,hat,b1,b2,b2']
set_option maxHeartbeats 4000000 in
theorem OCz (n:Nat) (hn:Big+10≤n) (d:TDelta) (hd:d.ok):pcall env n 74 [.c .agg (d.pv.map AMz)] []=some ⟨pvSV (.b (BDz d)),[]⟩:=by
 obtain⟨m,rfl⟩:=AEz hn
 have hB:=ASz
 have hbd:Bd=1048576:=rfl
 have hat:=GGz m (deep hn (by decide)) d.Attrs hd.Attrs.1 hd.Attrs.2
 have hri:=Lzz m (deep hn (by decide)) d.Fresh hd.Fresh.2
 have hlg:=hd.Gone.2
 have hlf:=hd.Fresh.2
 simp only[go_sem]at hat hri
 refine ANz (ADz (fn:=Tryz.f74) rfl rfl rfl (Nat.le_of_ble_eq_true rfl) ?_)
 unfold Tryz.f74
 cases b1:BXz d.Attrs with
 |false=>
  have eg:BDz d=false:=by unfold BDz;rw[b1];rfl
  rw[eg]
  simp only[go_sem,seval,hat,b1]
 |true=>
 by_cases b2:((d.Gone.length:Int)>200)
 ·have eg:BDz d=false:=by unfold BDz;simp only[b2,decide_true,Bool.not_true,Bool.and_false,Bool.false_and]
  rw[eg]
  simp only[go_sem,seval,hat,b1,b2]
 by_cases b3:((d.Fresh.length:Int)>200)
 ·have eg:BDz d=false:=by unfold BDz;simp only[b3,decide_true,Bool.not_true,Bool.and_false,Bool.false_and]
  rw[eg]
  simp only[go_sem,seval,hat,b1,b2,b3]
 simp only[go_sem,seval,hat,b1,b2,b3]
 refine AFz (fun k σ=>∃j:Nat,j≤d.Gone.length∧k=d.Gone.length - j∧(∀i,i<j→Cdz d.Gone i=true)∧σ=slots 107 [(1,.c .box [.sh true (.s 2 (d.Attrs.map TAttr.pv)),.sh true (.s 1 (d.Gone.map spv)),.sh true (.s 5 (d.Fresh.map TEntry.pv))]),(3,.c .one [.sh false (.i .i64 (j:Nat))])]) d.Gone.length (by omega) ?_ ?_
 ·simp only[go_sem,seval]
  exact⟨0,Nat.zero_le _,rfl,fun i hi=>absurd hi (Nat.not_lt_zero _),rfl⟩
 ·rintro k σ ⟨j,hj,rfl,hp,rfl⟩
  by_cases hlt:j<d.Gone.length
  ·have h1:((j:Int)<(d.Gone.length:Int)):=by omega
   have hx:d.Gone[j]? =some d.Gone[j]:=List.getElem?_eq_getElem hlt
   have hok:=hd.Gone.1 _ (List.getElem_mem hlt)
   generalize d.Gone[j]=s at hx hok
   obtain⟨pa,pb,hc⟩:=Gsz m (deep hn (by decide)) s hok
   simp only[go_sem]at hc
   have step:Cdz d.Gone j=true→∀i,i<j+1→Cdz d.Gone i=true:=fun e=>I1z hp e
   have bad:Cdz d.Gone j=false→BDz d=false:=fun e=>by unfold BDz;rw[A8z hlt e];simp only[Bool.and_false,Bool.false_and]
   cases b4:CIz s with
   |false=>
    rw[bad (Nxz hx b4)]
    simp only[go_sem,seval,h1,hx,hc,b4]<;>exact chk1 (by kernel_rfl)
   |true=>
    by_cases h0:j=0
    ·have hgt:¬((j:Int)>0):=by omega
     simp only[go_sem,seval,h1,hx,hc,b4,hgt,ACz hlt (by omega)]
     exact chk (by kernel_rfl) ⟨_,by omega,j+1,hlt,rfl,step (by rw[Nyz hx h0,b4]),rfl⟩
    ·have hgt:((j:Int)>0):=by omega
     have hy:d.Gone[j - 1]? =some d.Gone[j - 1]:=List.getElem?_eq_getElem (by omega)
     generalize d.Gone[j - 1]=y at hy
     have ee:=Nwz hx h0 hy
     rw[b4,Bool.true_and]at ee
     obtain⟨j',hj'⟩:∃j',j'=j - 1:=⟨_,rfl⟩
     rw[←hj']at hy
     have ws:IntKind.i64.wrap ((j:Int) - 1)=(j':Int):=by rw[ARz (by omega) (by omega)];omega
     cases b6:A1z y s with
     |false=>
      rw[bad (by rw[ee,b6])]
      unfold A1z at b6
      simp only[go_sem,seval,h1,hx,hc,b4,hgt,ws,hy,b6]<;>exact chk1 (by kernel_rfl)
     |true=>
      rw[b6]at ee
      unfold A1z at b6
      simp only[go_sem,seval,h1,hx,hc,b4,hgt,ws,hy,b6,ACz hlt (by omega)]
      exact chk (by kernel_rfl) ⟨_,by omega,j+1,hlt,rfl,step ee,rfl⟩
  ·have h1:¬((j:Int)<(d.Gone.length:Int)):=by omega
   obtain rfl:j=d.Gone.length:=by omega
   have hpg:=hp
   simp only[go_sem,seval,h1]
   clear hp h1 hlt hj
   refine AFz (fun k σ=>∃j:Nat,j≤d.Fresh.length∧k=d.Fresh.length - j∧(∀i,i<j→(CXz d.Fresh i&&C2z d.Fresh i)=true)∧σ=slots 107 [(1,.c .box [.sh true (.s 2 (d.Attrs.map TAttr.pv)),.sh true (.s 1 (d.Gone.map spv)),.sh true (.s 5 (d.Fresh.map TEntry.pv))]),(7,.c .one [.sh false (.i .i64 (j:Nat))])]) d.Fresh.length (by omega) ?_ ?_
   ·simp only[go_sem,seval]
    exact⟨0,Nat.zero_le _,rfl,fun i hi=>absurd hi (Nat.not_lt_zero _),rfl⟩
   ·rintro k σ ⟨j,hj,rfl,hp,rfl⟩
    by_cases hlt:j<d.Fresh.length
    ·have h1:((j:Int)<(d.Fresh.length:Int)):=by omega
     have hx:d.Fresh[j]? =some d.Fresh[j]:=List.getElem?_eq_getElem hlt
     have hok:=hd.Fresh.1 _ (List.getElem_mem hlt)
     generalize d.Fresh[j]=e at hx hok
     obtain⟨pa,pb,hc⟩:=Gsz m (deep hn (by decide)) e.First hok.First
     have hen:=Lcz m (deep hn (by decide)) e hok
     simp only[go_sem]at hc hen
     have step:(CXz d.Fresh j&&C2z d.Fresh j)=true→∀i,i<j+1→(CXz d.Fresh i&&C2z d.Fresh i)=true:=fun e=>I1z hp e
     have bad:allB d.Fresh.length (CXz d.Fresh)=false→BDz d=false:=fun e=>by unfold BDz;rw[e];simp only[Bool.and_false,Bool.false_and]
     have badr:allB d.Fresh.length (C2z d.Fresh)=false→BDz d=false:=fun e=>by unfold BDz;rw[e,Bool.and_false]
     cases b4:Erz e with
     |false=>
      rw[bad (by rw[A8z hlt (by rw[Diz hx,b4];rfl)])]
      simp only[go_sem,seval,h1,hx,hen,b4,hc]<;>exact chk1 (by kernel_rfl)
     |true=>
      cases b5:CIz e.First with
      |false=>
       rw[bad (by rw[A8z hlt (by rw[Diz hx,b4,b5];rfl)])]
       simp only[go_sem,seval,h1,hx,hen,b4,hc,b5]<;>exact chk1 (by kernel_rfl)
      |true=>
       have ef:CXz d.Fresh j=true:=by rw[Diz hx,b4,b5];rfl
       by_cases h0:j=0
       ·have hgt:¬((j:Int)>0):=by omega
        simp only[go_sem,seval,h1,hx,hen,b4,hc,b5,hgt,ACz hlt (by omega)]
        exact chk (by kernel_rfl) ⟨_,by omega,j+1,hlt,rfl,step (by rw[ef,M5z hx h0];rfl),rfl⟩
       ·have hgt:((j:Int)>0):=by omega
        have hy:d.Fresh[j - 1]? =some d.Fresh[j - 1]:=List.getElem?_eq_getElem (by omega)
        generalize d.Fresh[j - 1]=y at hy
        have ee:=M4z hx h0 hy
        obtain⟨j',hj'⟩:∃j',j'=j - 1:=⟨_,rfl⟩
        rw[←hj']at hy
        have ws:IntKind.i64.wrap ((j:Int) - 1)=(j':Int):=by rw[ARz (by omega) (by omega)];omega
        cases b6:A1z y.Path e.Path with
        |false=>
         rw[badr (by rw[A8z hlt (by rw[ee,b6])])]
         unfold A1z at b6
         simp only[go_sem,seval,h1,hx,hen,b4,hc,b5,hgt,ws,hy,b6]<;>exact chk1 (by kernel_rfl)
        |true=>
         have er:(CXz d.Fresh j&&C2z d.Fresh j)=true:=by rw[ef,ee,b6];rfl
         unfold A1z at b6
         simp only[go_sem,seval,h1,hx,hen,b4,hc,b5,hgt,ws,hy,b6,ACz hlt (by omega)]
         exact chk (by kernel_rfl) ⟨_,by omega,j+1,hlt,rfl,step er,rfl⟩
    ·have h1:¬((j:Int)<(d.Fresh.length:Int)):=by omega
     obtain rfl:j=d.Fresh.length:=by omega
     have eg:BDz d=true:=by
      have hq:=BRz hp
      rw[Uuz]at hq
      simp only[Bool.and_eq_true]at hq
      unfold BDz;rw[BRz hpg,hq.1,hq.2,b1,decide_eq_false b2,decide_eq_false b3];rfl
     rw[eg]
     simp only[go_sem,seval,h1]
end Go.Proofs.YtblelojdboefjaaGreatDoor.R
namespace Go.Proofs.YtblelojdboefjaaGreatDoor.R
open Go
def putT (b:List UInt8) (s:ByteArray):List UInt8:=putN b s.size++s.data.toList
def putA (b:List UInt8) (a:TAttr):List UInt8:=putT (putT b a.Name) a.Val
def Bez (b:List UInt8) (l:List TAttr):List UInt8:=l.foldl putA (putN b l.length)
theorem B6z (b:List UInt8) {s:ByteArray} (h:okS s):(putT b s).length≤b.length+1048579:=by
 unfold putT
 have h2:=Bfz b s.size
 have h3:s.size≤1048576:=h
 have h4:s.data.toList.length=s.size:=rfl
 rw[List.length_append];omega
theorem Jgz (b:List UInt8) {a:TAttr} (h:a.ok):(putA b a).length≤b.length+2097158:=by
 unfold putA
 have h1:=B6z b h.Name
 have h2:=B6z (putT b a.Name) h.Val
 omega
theorem FRz {α:Type} (f:List UInt8→α→List UInt8) (c:Nat):∀(l:List α) (b:List UInt8),(∀b,∀a∈l,(f b a).length≤b.length+c)→(l.foldl f b).length≤b.length+l.length*c
 |[],b,_=>by simp
 |x::l,b,h=>by
  have h1:=FRz f c l (f b x) fun b a ha=>h b a (List.mem_cons_of_mem _ ha)
  have h2:=h b x List.mem_cons_self
  rw[List.foldl_cons,List.length_cons,Nat.succ_mul]
  omega
theorem D0z {α β:Type} (f:β→α→β) (b:β) {l:List α} {j:Nat} {x:α} (h:l[j]? =some x):(l.take (j+1)).foldl f b=f ((l.take j).foldl f b) x:=by
 obtain⟨hj,e⟩:=List.getElem?_eq_some_iff.1 h
 rw[List.take_succ_eq_append_getElem hj,e,List.foldl_append];rfl
theorem FIz (b:List UInt8) {l:List TAttr} (h:∀a∈l,a.ok) {c:Nat} (hl:l.length≤c):(Bez b l).length≤b.length+3+c*2097158:=by
 unfold Bez
 have h1:=FRz putA 2097158 l (putN b l.length) fun b a ha=>Jgz b (h a ha)
 have h2:=Bfz b l.length
 have h3:l.length*2097158≤c*2097158:=Nat.mul_le_mul_right _ hl
 omega
theorem JHz (n:Nat) (hn:Big+3≤n) (b:List UInt8) (hb:b.length≤1099511627776) (s:ByteArray) (hs:okS s):pcall env n 146 [.c .one [.sh true (.s 1 ((b).map bpv))],.c .one [.sh false (.t (s))]] []=some ⟨.c .one [.ow false 1 ((putT b s).map bpv)],[]⟩:=by
 refine walk (fn:=Tryz.f146) (d:=2) hn rfl rfl rfl (Nat.le_of_ble_eq_true rfl) fun m hd=> ?_
 unfold Tryz.f146
 have hlim:LIM=70368744177664:=rfl
 have hc:=Eiz m (hd (by decide)) b (by omega) s.size
 have hl:=Bfz b s.size
 have h3:s.size≤1048576:=hs
 have g0:(BHz s).length=s.size:=List.length_map ..
 have g1:(putN b s.size).length+(BHz s).length≤LIM:=by omega
 have e1:(putN b s.size).map bpv++BHz s=(putT b s).map bpv:=by unfold putT;rw[List.map_append];rfl
 simp only[go_sem,seval,hc,g1,e1]
theorem JGz (n:Nat) (hn:Big+2≤n) (b:List UInt8) (hb:b.length≤1099511627776) (s:ByteArray) (hs:okS s):pcall env n 136 [.c .one [.sh true (.s 1 ((b).map bpv))],.c .one [.sh false (.t (s))]] []=some ⟨.c .one [.ow false 1 ((putT b s).map bpv)],[]⟩:=by
 refine walk (fn:=Tryz.f136) (d:=1) hn rfl rfl rfl (Nat.le_of_ble_eq_true rfl) fun m hd=> ?_
 unfold Tryz.f136
 have hlim:LIM=70368744177664:=rfl
 have hc:=Ehz m (hd (by decide)) b (by omega) s.size
 have hl:=Bfz b s.size
 have h3:s.size≤1048576:=hs
 have g0:(BHz s).length=s.size:=List.length_map ..
 have g1:(putN b s.size).length+(BHz s).length≤LIM:=by omega
 have e1:(putN b s.size).map bpv++BHz s=(putT b s).map bpv:=by unfold putT;rw[List.map_append];rfl
 simp only[go_sem,seval,hc,g1,e1]
set_option maxHeartbeats 1000000 in
theorem IOz (n:Nat) (hn:Big+4≤n) (b:List UInt8) (hb:b.length≤549755813888) (l:List TAttr) (ho:∀a∈l,a.ok) (hl:l.length≤4):pcall env n 144 [.c .one [.sh true (.s 1 ((b).map bpv))],.c .one [.sh true (.s 2 (l.map TAttr.pv))]] []=some ⟨.c .one [.ow false 1 ((Bez b l).map bpv)],[]⟩:=by
 refine walk (fn:=Tryz.f144) (d:=3) hn rfl rfl rfl (Nat.le_of_ble_eq_true rfl) fun m hd=> ?_
 unfold Tryz.f144
 have hc:=Eiz m (hd (by decide)) b (by omega) l.length
 have ht:=fun b hb s hs=>JHz m (hd (by decide)) b hb s hs
 have hpl:=Bfz b l.length
 simp only[go_sem,seval,hc]
 refine A5z l (fun j=>slots 26 [(0,.c .one [.ow false 1 (((l.take j).foldl putA (putN b l.length)).map bpv)]),(11,.c .one [.sh true (.s 2 (l.map TAttr.pv))]),(12,.c .one [.sh false (.i .i64 ((l.length:Nat)))]),(13,.c .one [.sh false (.i .i64 (j:Nat))])]) (fun _=>True) (hd (Nat.zero_le _)) (by omega) ?_ (fun j x hx hm hj h1 hw _=> ?_) (fun _=> ?_)
 ·simp only[go_sem,seval];exact fin' rfl
 ·have hk:=FRz putA 2097158 (l.take j) (putN b l.length) fun b a ha=>Jgz b (ho a (List.mem_of_mem_take ha))
  have ht2:(l.take j).length≤4:=by rw[List.length_take];omega
  have e:=D0z putA (putN b l.length) hx
  rw[e]
  generalize(l.take j).foldl putA (putN b l.length)=B at hk ⊢
  have h3:B.length≤b.length+3+4*2097158:=Nat.le_trans hk (by have:(l.take j).length*2097158≤4*2097158:=Nat.mul_le_mul_right _ ht2;omega)
  have ok:=ho x hm
  have t1:=ht B (by omega) x.Name ok.Name
  have h4:=B6z B ok.Name
  have t2:=ht (putT B x.Name) (by omega) x.Val ok.Val
  simp only[go_sem,seval,h1,hx,t1,t2,hw]
  exact chk (by kernel_rfl) (fin' rfl)
 ·rw[List.take_length]
  simp only[go_sem,seval]
  rfl
set_option maxHeartbeats 1000000 in
theorem INz (n:Nat) (hn:Big+3≤n) (b:List UInt8) (hb:b.length≤549755813888) (l:List TAttr) (ho:∀a∈l,a.ok) (hl:l.length≤4):pcall env n 135 [.c .one [.sh true (.s 1 ((b).map bpv))],.c .one [.sh true (.s 2 (l.map TAttr.pv))]] []=some ⟨.c .one [.ow false 1 ((Bez b l).map bpv)],[]⟩:=by
 refine walk (fn:=Tryz.f135) (d:=2) hn rfl rfl rfl (Nat.le_of_ble_eq_true rfl) fun m hd=> ?_
 unfold Tryz.f135
 have hc:=Ehz m (hd (by decide)) b (by omega) l.length
 have ht:=fun b hb s hs=>JGz m (hd (by decide)) b hb s hs
 have hpl:=Bfz b l.length
 simp only[go_sem,seval,hc]
 refine A5z l (fun j=>slots 30 [(0,.c .one [.ow false 1 (((l.take j).foldl putA (putN b l.length)).map bpv)]),(1,.c .one [.sh true (.s 2 (l.map TAttr.pv))]),(5,.c .one [.sh false (.i .i64 (j:Nat))])]) (fun _=>True) (hd (Nat.zero_le _)) (by omega) ?_ (fun j x hx hm hj h1 hw _=> ?_) (fun _=> ?_)
 ·simp only[go_sem,seval];exact fin' rfl
 ·have hk:=FRz putA 2097158 (l.take j) (putN b l.length) fun b a ha=>Jgz b (ho a (List.mem_of_mem_take ha))
  have ht2:(l.take j).length≤4:=by rw[List.length_take];omega
  have e:=D0z putA (putN b l.length) hx
  rw[e]
  generalize(l.take j).foldl putA (putN b l.length)=B at hk ⊢
  have h3:B.length≤b.length+3+4*2097158:=Nat.le_trans hk (by have:(l.take j).length*2097158≤4*2097158:=Nat.mul_le_mul_right _ ht2;omega)
  have ok:=ho x hm
  have t1:=ht B (by omega) x.Name ok.Name
  have h4:=B6z B ok.Name
  have t2:=ht (putT B x.Name) (by omega) x.Val ok.Val
  simp only[go_sem,seval,h1,hx,t1,t2,hw]
  exact chk (by kernel_rfl) (fin' rfl)
 ·rw[List.take_length]
  simp only[go_sem,seval]
  rfl
end Go.Proofs.YtblelojdboefjaaGreatDoor.R
namespace Go.Proofs.YtblelojdboefjaaGreatDoor.R
open Go
def putE (b:List UInt8) (e:TEntry):List UInt8:=putT (Bez (putT (putN (putT b e.Path) e.Kind) ⟨⟨e.Data⟩⟩) e.Attrs) e.First
def putG (d:TDelta):List UInt8:=d.Gone.foldl putT (putN (Bez (putN [] 7) d.Attrs) d.Gone.length)
def putX (d:TDelta):List UInt8:=d.Fresh.foldl putE (putN (putG d) d.Fresh.length)
def putD (d:TDelta):List UInt8:=if BDz d=true then(if(putX d++be4 (crcN (putX d))).length>20000 then[]else putX d++be4 (crcN (putX d)))else[]
theorem Obz {l:List TAttr} (h:BXz l=true):l.length≤4:=by
 unfold BXz at h
 simp only[Bool.and_eq_true,decide_eq_true_eq]at h
 omega
theorem WFz {n:Nat} {f:Nat→Bool} (h:allB n f=true) {j:Nat} (hj:j<n):f j=true:=by
 cases e:f j with
 |true=>rfl
 |false=>rw[A8z hj e]at h;exact absurd h (by decide)
theorem OEz {d:TDelta} (h:BDz d=true):d.Attrs.length≤4∧d.Gone.length≤200∧d.Fresh.length≤200∧∀e∈d.Fresh,e.Attrs.length≤4:=by
 unfold BDz at h
 simp only[Bool.and_eq_true,Bool.not_eq_true',decide_eq_false_iff_not]at h
 obtain⟨⟨⟨⟨⟨h1,h2⟩,h3⟩,h4⟩,h5⟩,h6⟩:=h
 refine⟨Obz h1,by omega,by omega,fun e he=> ?_⟩
 obtain⟨j,hj,rfl⟩:=List.getElem_of_mem he
 have:=WFz h5 hj
 rw[Diz (List.getElem?_eq_getElem hj)]at this
 unfold Erz at this
 simp only[Bool.and_eq_true]at this
 exact Obz this.1.1.1.2
theorem M8z (b:List UInt8) {e:TEntry} (h:e.ok) (h4:e.Attrs.length≤4):(putE b e).length≤b.length+12000000:=by
 unfold putE
 have h1:=B6z b h.Path
 have h2:=Bfz (putT b e.Path) e.Kind
 have h3:=B6z (putN (putT b e.Path) e.Kind) (s:=⟨⟨e.Data⟩⟩) h.Data.2
 have h5:=FIz (putT (putN (putT b e.Path) e.Kind) ⟨⟨e.Data⟩⟩) h.Attrs.1 h4
 have h6:=B6z (Bez (putT (putN (putT b e.Path) e.Kind) ⟨⟨e.Data⟩⟩) e.Attrs) h.First
 omega
theorem Hkz {α:Type} (f:List UInt8→α→List UInt8) {c k B:Nat} {l:List α} {b:List UInt8} (h:∀b,∀a∈l,(f b a).length≤b.length+c) (hl:l.length≤k) (hb:b.length≤B):∀j,((l.take j).foldl f b).length≤B+k*c:=fun j=>by
 have h1:=FRz f c (l.take j) b fun b a ha=>h b a (List.mem_of_mem_take ha)
 have h2:(l.take j).length*c≤k*c:=Nat.mul_le_mul_right _ (by rw[List.length_take];omega)
 omega
set_option maxHeartbeats 2000000 in
theorem NAz (n:Nat) (hn:Big+11≤n) (d:TDelta) (ho:d.ok):pcall env n 68 [.c .agg (d.pv.map AMz)] []=some ⟨.c .one [.ow false 1 ((putD d).map bpv)],[]⟩:=by
 refine walk (fn:=Tryz.f68) (d:=10) hn rfl rfl rfl (Nat.le_of_ble_eq_true rfl) fun m hd=> ?_
 unfold Tryz.f68
 have hdel:=ODz m (hd (by decide)) d ho
 simp only[go_sem]at hdel
 cases hb:BDz d with
 |false=>
  have hG:putD d=[]:=by unfold putD;rw[if_neg (by rw[hb];decide)]
  rw[hG]
  simp only[go_sem,seval,hdel,hb]
 |true=>
  obtain⟨hA,hGo,hF,hFA⟩:=OEz hb
  have hn0:=Eiz m (hd (by decide)) [] (by decide) 7
  have hl0:=Bfz [] 7
  have ha0:=IOz m (hd (by decide)) (putN [] 7) (by rw[List.length_nil]at hl0;omega) d.Attrs ho.Attrs.1 hA
  have hl1:=FIz (putN [] 7) ho.Attrs.1 hA
  have hn1:=Eiz m (hd (by decide)) (Bez (putN [] 7) d.Attrs) (by rw[List.length_nil]at hl0;omega) d.Gone.length
  have hl2:=Bfz (Bez (putN [] 7) d.Attrs) d.Gone.length
  have hlG:=Hkz (c:=1048579) (k:=200) (l:=d.Gone) (b:=putN (Bez (putN [] 7) d.Attrs) d.Gone.length) (B:=10000000) putT (fun b a ha=>B6z b (ho.Gone.1 a ha)) hGo (by rw[List.length_nil]at hl0;omega)
  have ht:=fun b hb s hs=>JHz m (hd (by decide)) b hb s hs
  have hnn:=fun b hb v=>Eiz m (hd (by decide)) b hb v
  have haa:=fun b hb l ho hl=>IOz m (hd (by decide)) b hb l ho hl
  rw[List.map_nil]at hn0
  simp only[go_sem,seval,hdel,hb,hn0,ha0,hn1]
  refine chk (by kernel_rfl) ?_
  have hBx:(putN (Bez (putN [] 7) d.Attrs) ↑d.Gone.length).length≤10000000:=by rw[List.length_nil]at hl0;omega
  refine A5z d.Gone (fun j=>slots 68 [(1,.c .box (d.pv.map AMz)),(3,.c .one [.ow false 1 (((d.Gone.take j).foldl putT (putN (Bez (putN [] 7) d.Attrs) d.Gone.length)).map bpv)]),(21,.c .one [.sh true (.s 1 (d.Gone.map spv))]),(22,.c .one [.sh false (.i .i64 ((d.Gone.length:Nat)))]),(23,.c .one [.sh false (.i .i64 (j:Nat))])]) (fun _=>True) (hd (Nat.zero_le _)) (by omega) ?_ (fun j x hx hm hj h1 hw _=> ?_) (fun _=> ?_)
  ·simp only[go_sem,seval];exact fin' rfl
  ·have hk:=hlG j
   have e:=D0z putT (putN (Bez (putN [] 7) d.Attrs) d.Gone.length) hx
   rw[e]
   generalize(d.Gone.take j).foldl putT (putN (Bez (putN [] 7) d.Attrs) d.Gone.length)=B at hk ⊢
   have t1:=ht B (by omega) x (ho.Gone.1 x hm)
   simp only[go_sem,seval,h1,hx,t1,hw]
   exact fin' rfl
  ·rw[List.take_length]
   have hk:=hlG d.Gone.length
   rw[List.take_length]at hk
   have e0:d.Gone.foldl putT (putN (Bez (putN [] 7) d.Attrs) d.Gone.length)=putG d:=rfl
   rw[e0]at hk
   have hn2:=hnn (putG d) (by omega) d.Fresh.length
   have hl3:=Bfz (putG d) d.Fresh.length
   have hlF:=Hkz (c:=12000000) (k:=200) (l:=d.Fresh) (b:=putN (putG d) d.Fresh.length) (B:=300000000) putE (fun b a ha=>M8z b (ho.Fresh.1 a ha) (hFA a ha)) hF (by omega)
   simp only[go_sem,seval,e0,hn2]
   refine A5z d.Fresh (fun j=>slots 68 [(1,.c .box (d.pv.map AMz)),(3,.c .one [.ow false 1 (((d.Fresh.take j).foldl putE (putN (putG d) d.Fresh.length)).map bpv)]),(37,.c .one [.sh true (.s 5 (d.Fresh.map TEntry.pv))]),(38,.c .one [.sh false (.i .i64 ((d.Fresh.length:Nat)))]),(39,.c .one [.sh false (.i .i64 (j:Nat))])]) (fun _=>True) (hd (Nat.zero_le _)) (by omega) ?_ (fun j x hx hm hj h1 hw _=> ?_) (fun _=> ?_)
   ·simp only[go_sem,seval];exact fin' rfl
   ·have hk:=hlF j
    have e:=D0z putE (putN (putG d) d.Fresh.length) hx
    rw[e]
    generalize(d.Fresh.take j).foldl putE (putN (putG d) d.Fresh.length)=B at hk ⊢
    have ok:=ho.Fresh.1 x hm
    have l1:=B6z B ok.Path
    have l2:=Bfz (putT B x.Path) x.Kind
    have l3:=B6z (putN (putT B x.Path) x.Kind) (s:=⟨⟨x.Data⟩⟩) ok.Data.2
    have l4:=FIz (putT (putN (putT B x.Path) x.Kind) ⟨⟨x.Data⟩⟩) ok.Attrs.1 (hFA x hm)
    have t1:=ht B (by omega) x.Path ok.Path
    have t2:=hnn (putT B x.Path) (by omega) x.Kind
    have t3:=ht (putN (putT B x.Path) x.Kind) (by omega) ⟨⟨x.Data⟩⟩ ok.Data.2
    have t4:=haa (putT (putN (putT B x.Path) x.Kind) ⟨⟨x.Data⟩⟩) (by omega) x.Attrs ok.Attrs.1 (hFA x hm)
    have t5:=ht (Bez (putT (putN (putT B x.Path) x.Kind) ⟨⟨x.Data⟩⟩) x.Attrs) (by omega) x.First ok.First
    simp only[go_sem,seval,h1,hx,t1,t2,t3,t4,t5,hw,MUz]
    exact chk (by kernel_rfl) (chk (by kernel_rfl) (fin' rfl))
   ·rw[List.take_length]
    have hk:=hlF d.Fresh.length
    rw[List.take_length]at hk
    have e0:d.Fresh.foldl putE (putN (putG d) d.Fresh.length)=putX d:=rfl
    rw[e0]at hk ⊢
    have hs:=Rrz m (hd (by decide)) (putX d) (by omega)
    have hlen:(putX d++be4 (crcN (putX d))).length≤3000000000:=by rw[List.length_append];have:(be4 (crcN (putX d))).length=4:=rfl;omega
    unfold putD
    rw[if_pos hb]
    generalize putX d++be4 (crcN (putX d))=Z at hs hlen ⊢
    by_cases h2:Z.length>20000
    ·have h2':((Z.length:Int)>20000)=True:=by simp only[eq_iff_iff,iff_true];omega
     rw[if_pos h2]
     simp only[go_sem,seval,hs,h2']
    ·have h2':((Z.length:Int)>20000)=False:=by simp only[eq_iff_iff,iff_false];omega
     rw[if_neg h2]
     simp only[go_sem,seval,hs,h2']
set_option maxHeartbeats 2000000 in
theorem M9z (n:Nat) (hn:Big+11≤n) (d:TDelta) (ho:d.ok):pcall env n 64 [.c .agg (d.pv.map AMz)] []=some ⟨.c .one [.ow false 1 ((putD d).map bpv)],[]⟩:=by
 refine walk (fn:=Tryz.f64) (d:=10) hn rfl rfl rfl (Nat.le_of_ble_eq_true rfl) fun m hd=> ?_
 unfold Tryz.f64
 have hdel:=OCz m (hd (by decide)) d ho
 simp only[go_sem]at hdel
 cases hb:BDz d with
 |false=>
  have hG:putD d=[]:=by unfold putD;rw[if_neg (by rw[hb];decide)]
  rw[hG]
  simp only[go_sem,seval,hdel,hb]
 |true=>
  obtain⟨hA,hGo,hF,hFA⟩:=OEz hb
  have hn0:=Ehz m (hd (by decide)) [] (by decide) 7
  have hl0:=Bfz [] 7
  have ha0:=INz m (hd (by decide)) (putN [] 7) (by rw[List.length_nil]at hl0;omega) d.Attrs ho.Attrs.1 hA
  have hl1:=FIz (putN [] 7) ho.Attrs.1 hA
  have hn1:=Ehz m (hd (by decide)) (Bez (putN [] 7) d.Attrs) (by rw[List.length_nil]at hl0;omega) d.Gone.length
  have hl2:=Bfz (Bez (putN [] 7) d.Attrs) d.Gone.length
  have hlG:=Hkz (c:=1048579) (k:=200) (l:=d.Gone) (b:=putN (Bez (putN [] 7) d.Attrs) d.Gone.length) (B:=10000000) putT (fun b a ha=>B6z b (ho.Gone.1 a ha)) hGo (by rw[List.length_nil]at hl0;omega)
  have ht:=fun b hb s hs=>JGz m (hd (by decide)) b hb s hs
  have hnn:=fun b hb v=>Ehz m (hd (by decide)) b hb v
  have haa:=fun b hb l ho hl=>INz m (hd (by decide)) b hb l ho hl
  rw[List.map_nil]at hn0
  simp only[go_sem,seval,hdel,hb,hn0,ha0,hn1]
  refine chk (by kernel_rfl) ?_
  have hBx:(putN (Bez (putN [] 7) d.Attrs) ↑d.Gone.length).length≤10000000:=by rw[List.length_nil]at hl0;omega
  refine A5z d.Gone (fun j=>slots 91 [(1,.c .box (d.pv.map AMz)),(3,.c .one [.ow false 1 (((d.Gone.take j).foldl putT (putN (Bez (putN [] 7) d.Attrs) d.Gone.length)).map bpv)]),(4,.c .one [.sh false (.i .i64 (j:Nat))])]) (fun _=>True) (hd (Nat.zero_le _)) (by omega) ?_ (fun j x hx hm hj h1 hw _=> ?_) (fun _=> ?_)
  ·simp only[go_sem,seval];exact fin' rfl
  ·have hk:=hlG j
   have e:=D0z putT (putN (Bez (putN [] 7) d.Attrs) d.Gone.length) hx
   rw[e]
   generalize(d.Gone.take j).foldl putT (putN (Bez (putN [] 7) d.Attrs) d.Gone.length)=B at hk ⊢
   have t1:=ht B (by omega) x (ho.Gone.1 x hm)
   simp only[go_sem,seval,h1,hx,t1,hw]
   exact fin' rfl
  ·rw[List.take_length]
   have hk:=hlG d.Gone.length
   rw[List.take_length]at hk
   have e0:d.Gone.foldl putT (putN (Bez (putN [] 7) d.Attrs) d.Gone.length)=putG d:=rfl
   rw[e0]at hk
   have hn2:=hnn (putG d) (by omega) d.Fresh.length
   have hl3:=Bfz (putG d) d.Fresh.length
   have hlF:=Hkz (c:=12000000) (k:=200) (l:=d.Fresh) (b:=putN (putG d) d.Fresh.length) (B:=300000000) putE (fun b a ha=>M8z b (ho.Fresh.1 a ha) (hFA a ha)) hF (by omega)
   simp only[go_sem,seval,e0,hn2]
   refine A5z d.Fresh (fun j=>slots 91 [(1,.c .box (d.pv.map AMz)),(3,.c .one [.ow false 1 (((d.Fresh.take j).foldl putE (putN (putG d) d.Fresh.length)).map bpv)]),(5,.c .one [.sh false (.i .i64 (j:Nat))])]) (fun _=>True) (hd (Nat.zero_le _)) (by omega) ?_ (fun j x hx hm hj h1 hw _=> ?_) (fun _=> ?_)
   ·simp only[go_sem,seval];exact fin' rfl
   ·have hk:=hlF j
    have e:=D0z putE (putN (putG d) d.Fresh.length) hx
    rw[e]
    generalize(d.Fresh.take j).foldl putE (putN (putG d) d.Fresh.length)=B at hk ⊢
    have ok:=ho.Fresh.1 x hm
    have l1:=B6z B ok.Path
    have l2:=Bfz (putT B x.Path) x.Kind
    have l3:=B6z (putN (putT B x.Path) x.Kind) (s:=⟨⟨x.Data⟩⟩) ok.Data.2
    have l4:=FIz (putT (putN (putT B x.Path) x.Kind) ⟨⟨x.Data⟩⟩) ok.Attrs.1 (hFA x hm)
    have t1:=ht B (by omega) x.Path ok.Path
    have t2:=hnn (putT B x.Path) (by omega) x.Kind
    have t3:=ht (putN (putT B x.Path) x.Kind) (by omega) ⟨⟨x.Data⟩⟩ ok.Data.2
    have t4:=haa (putT (putN (putT B x.Path) x.Kind) ⟨⟨x.Data⟩⟩) (by omega) x.Attrs ok.Attrs.1 (hFA x hm)
    have t5:=ht (Bez (putT (putN (putT B x.Path) x.Kind) ⟨⟨x.Data⟩⟩) x.Attrs) (by omega) x.First ok.First
    simp only[go_sem,seval,h1,hx,t1,t2,t3,t4,t5,hw,MUz]
    exact chk (by kernel_rfl) (chk (by kernel_rfl) (fin' rfl))
   ·rw[List.take_length]
    have hk:=hlF d.Fresh.length
    rw[List.take_length]at hk
    have e0:d.Fresh.foldl putE (putN (putG d) d.Fresh.length)=putX d:=rfl
    rw[e0]at hk ⊢
    have hs:=V5z m (hd (by decide)) (putX d) (by omega)
    have hlt:=Lfz (putX d)
    have e1:BTz .shr .i64 (crcN (putX d):Int) 24=some (.i .i64 ((crcN (putX d)/16777216:Nat):Int)):=GLz (s:=24) (by decide) (by omega)
    have e2:BTz .shr .i64 (crcN (putX d):Int) 16=some (.i .i64 ((crcN (putX d)/65536:Nat):Int)):=GLz (s:=16) (by decide) (by omega)
    have e3:BTz .shr .i64 (crcN (putX d):Int) 8=some (.i .i64 ((crcN (putX d)/256:Nat):Int)):=GLz (s:=8) (by decide) (by omega)
    have hlen:(putX d++be4 (crcN (putX d))).length≤3000000000:=by rw[List.length_append];have:(be4 (crcN (putX d))).length=4:=rfl;omega
    have hlim:LIM=70368744177664:=rfl
    have g2:(putX d).length+4≤LIM:=by omega
    have e4:=P6z (putX d) (crcN (putX d))
    unfold putD
    rw[if_pos hb]
    generalize crcN (putX d)=c at hs hlt e1 e2 e3 e4 hlen ⊢
    generalize putX d=X at hs g2 e4 hlen ⊢
    generalize hZ:X++be4 c=Z at e4 hlen ⊢
    by_cases h2:Z.length>20000
    ·have h2':((Z.length:Int)>20000)=True:=by simp only[eq_iff_iff,iff_true];omega
     rw[if_pos h2]
     simp only[go_sem,seval,hs,e1,e2,e3,u8w,e4,g2,h2']
    ·have h2':((Z.length:Int)>20000)=False:=by simp only[eq_iff_iff,iff_false];omega
     rw[if_neg h2]
     simp only[go_sem,seval,hs,e1,e2,e3,u8w,e4,g2,h2']
end Go.Proofs.YtblelojdboefjaaGreatDoor.R
namespace Go.Proofs.YtblelojdboefjaaGreatDoor.R
open Go
section
variable {E:Env} {call:CallF} {N:Nat}
def Hqz (E:Env) (call:CallF) (N:Nat) (ops:Array Oper):List (Nat×Nat)→List St→St→Prop
 |[],_,_=>True
 |p::r,σs,τ=> @Wq _ (σs[p.1]?) ⟨fun σ=> @Wq _ (AYz E call N ops [p.2] σ) ⟨fun τ'=>τ'=τ⟩⟩∧Hqz E call N ops r σs τ
def ToP (E:Env) (call:CallF) (N:Nat) (ops:Array Oper):List (Nat×Nat)→List St→(St→Prop)→Prop
 |[],_,_=>False
 |p::r,σs,K=> @Wq _ (σs[p.1]?) ⟨fun σ=> @Wq _ (AYz E call N ops [p.2] σ) ⟨fun τ=>Hqz E call N ops r σs τ∧K τ⟩⟩
def DagP (E:Env) (call:CallF) (N:Nat) (ops:Array Oper):List (List Nat×List (Nat×Nat))→List St→(List St→Prop)→Prop
 |[],σs,K=>K σs
 |e::r,σs,K=>ToP E call N ops e.2 σs fun τ=>DagP E call N ops r (τ::σs) K
@[go_sem] theorem AAhz {ops:Array Oper} {σs:List St} {τ:St}:Hqz E call N ops [] σs τ=True:=rfl
@[go_sem] theorem Zaz {ops:Array Oper} {a b:Nat} {r:List (Nat×Nat)} {σs:List St} {τ:St}:Hqz E call N ops ((a,b)::r) σs τ=(@Wq _ (σs[a]?) ⟨fun σ=> @Wq _ (AYz E call N ops [b] σ) ⟨fun τ'=>τ'=τ⟩⟩∧Hqz E call N ops r σs τ):=rfl
@[go_sem] theorem AClz {ops:Array Oper} {a b:Nat} {r:List (Nat×Nat)} {σs:List St} {K:St→Prop}:ToP E call N ops ((a,b)::r) σs K= @Wq _ (σs[a]?) ⟨fun σ=> @Wq _ (AYz E call N ops [b] σ) ⟨fun τ=>Hqz E call N ops r σs τ∧K τ⟩⟩:=rfl
@[go_sem] theorem AENz {ops:Array Oper} {σs:List St} {K:List St→Prop}:DagP E call N ops [] σs K=K σs:=rfl
@[go_sem] theorem ACHz {ops:Array Oper} {L:List Nat} {e:List (Nat×Nat)} {r:List (List Nat×List (Nat×Nat))} {σs:List St} {K:List St→Prop}:DagP E call N ops ((L,e)::r) σs K=ToP E call N ops e σs fun τ=>DagP E call N ops r (τ::σs) K:=rfl
attribute [go_sem] List.getElem?_cons_zero List.getElem?_cons_succ
def eqv (a b:List Nat):Bool:=a.all (fun i=>b.contains i)&&b.all fun i=>a.contains i
theorem URz {a b:List Nat} (h:eqv a b=true) (i:Nat):a.contains i=b.contains i:=by
 unfold eqv at h
 simp only[Bool.and_eq_true,List.all_eq_true]at h
 rw[Bool.eq_iff_iff]
 simp only[List.contains_iff_mem]
 exact⟨fun hi=>by simpa using h.1 i hi,fun hi=>by simpa using h.2 i hi⟩
def Miz (ops:Array Oper) (plan:List (List Nat×List (Nat×Nat))):Bool:=
 (List.range (plan.length+1)).all fun s=>match(([]:List Nat)::plan.map (·.1))[s]? with
  |none=>false
  |some L=>(!(DPz ops L).isEmpty||decide (s=plan.length))&&(decide (L.length<ops.size)||(DPz ops L).isEmpty)&&decide (L.length≤ops.size)&&(DPz ops L).all fun i=>(List.range plan.length).any fun t=>match plan[t]? with
   |none=>false
   |some e=>eqv e.1 (i::L)&&decide (e.1.length=L.length+1)&&decide (s≤t)&&e.2.contains (t - s,i)
theorem Ttz {ops:Array Oper} {a b:List Nat} (h:∀i,a.contains i=b.contains i):DPz ops a=DPz ops b:=by
 unfold DPz
 congr 1;funext i
 rw[h i]
 congr 2;funext j
 exact h j
theorem M0z {ops:Array Oper}:∀{l:List (Nat×Nat)} {σs:List St} {τ:St},Hqz E call N ops l σs τ→∀p∈l,∃σ,σs[p.1]? =some σ∧AYz E call N ops [p.2] σ=some τ
 |[],_,_,_,p,hp=>nomatch hp
 |q::l,σs,τ,h,p,hp=>by
  obtain⟨h1,h2⟩:=h
  rcases List.mem_cons.1 hp with rfl|hp
  ·obtain⟨σ,e1,e2⟩:=h1
   obtain⟨τ',e3,e4⟩:=e2
   have e4:τ'=τ:=e4
   exact⟨σ,e1,by rw[e3,e4]⟩
  ·exact M0z h2 p hp
theorem Wrz {ops:Array Oper} {l:List (Nat×Nat)} {σs:List St} {K:St→Prop} (h:ToP E call N ops l σs K):∃τ,K τ∧∀p∈l,∃σ,σs[p.1]? =some σ∧AYz E call N ops [p.2] σ=some τ:=by
 cases l with
 |nil=>exact h.elim
 |cons q l=>
  obtain⟨σ,e1,τ,e2,e3,e4⟩:=h
  refine⟨τ,e4,fun p hp=> ?_⟩
  rcases List.mem_cons.1 hp with rfl|hp
  ·exact⟨σ,e1,e2⟩
  ·exact M0z e3 p hp
theorem P0z {ops:Array Oper}:∀{plan:List (List Nat×List (Nat×Nat))} {σs:List St} {K:List St→Prop},DagP E call N ops plan σs K→∃pre:List St,pre.length=plan.length∧K (pre++σs)∧∀t e,plan[t]? =some e→∀p∈e.2,∃σ τ,(pre++σs)[plan.length - t+p.1]? =some σ∧(pre++σs)[plan.length - (t+1)]? =some τ∧AYz E call N ops [p.2] σ=some τ
 |[],σs,K,h=>⟨[],rfl,h,fun t e he=>by simp at he⟩
 |e0::plan,σs,K,h=>by
  obtain⟨τ,h1,h2⟩:=Wrz h
  obtain⟨pre,h3,h4,h5⟩:=P0z h1
  refine⟨pre++[τ],by simp[h3],by simpa using h4,fun t e he p hp=> ?_⟩
  have ea:pre++[τ]++σs=pre++τ::σs:=by simp
  rw[ea]
  cases t with
  |zero=>
   have he:e0=e:=by simpa using he
   subst he
   obtain⟨σ,k1,k2⟩:=h2 p hp
   refine⟨σ,τ,?_,?_,k2⟩
   ·rw[List.getElem?_append_right (by rw[h3];simp only[List.length_cons];omega),h3]
    rw[show(e0::plan).length - 0+p.1 - plan.length=p.1+1 by simp only[List.length_cons];omega,List.getElem?_cons_succ]
    exact k1
   ·rw[List.getElem?_append_right (by rw[h3];simp only[List.length_cons];omega),h3]
    rw[show(e0::plan).length - (0+1) - plan.length=0 by simp only[List.length_cons];omega]
    rfl
  |succ t=>
   have he:plan[t]? =some e:=by simpa using he
   obtain⟨σ,τ',k1,k2,k3⟩:=h5 t e he p hp
   have hl:=(List.getElem?_eq_some_iff.1 he).1
   refine⟨σ,τ',?_,?_,k3⟩
   ·rw[show(e0::plan).length - (t+1)+p.1=plan.length - t+p.1 by simp only[List.length_cons];omega];exact k1
   ·rw[show(e0::plan).length - (t+1+1)=plan.length - (t+1)by simp only[List.length_cons];omega];exact k2
theorem Q7z {ops:Array Oper} {plan:List (List Nat×List (Nat×Nat))} {F:List St} {z:St} (hc:Miz ops plan=true) (hz:F[0]? =some z) (hF:F.length=plan.length+1)
  (hs:∀t e,plan[t]? =some e→∀p∈e.2,∃σ τ,F[plan.length - t+p.1]? =some σ∧F[plan.length - (t+1)]? =some τ∧AYz E call N ops [p.2] σ=some τ):
  ∀k s L l σ,(([]:List Nat)::plan.map (·.1))[s]? =some L→F[plan.length - s]? =some σ→(∀i,l.contains i=L.contains i)→k+L.length=ops.size→∀o∈orders ops k l,AYz E call N ops o σ=some z:=by
 intro k
 induction k with
 |zero=>
  intro s L l σ hL hσ hl hk o ho
  have hsl:s<plan.length+1:=by have:=(List.getElem?_eq_some_iff.1 hL).1;simpa using this
  unfold Miz at hc
  have h1:=List.all_eq_true.1 hc s (List.mem_range.2 hsl)
  rw[hL]at h1
  simp only[Bool.and_eq_true,Bool.or_eq_true,decide_eq_true_eq,Bool.not_eq_true']at h1
  obtain⟨⟨⟨g1,g2⟩,g3⟩,g4⟩:=h1
  have hr:(DPz ops L).isEmpty=true:=g2.resolve_left (by omega)
  have hsp:s=plan.length:=g1.resolve_left (by rw[hr];decide)
  subst hsp
  rw[Nat.sub_self,hz]at hσ
  injection hσ with hσ
  subst hσ
  simp only[orders,List.mem_singleton]at ho
  subst ho
  rfl
 |succ k ih=>
  intro s L l σ hL hσ hl hk o ho
  have hsl:s<plan.length+1:=by have:=(List.getElem?_eq_some_iff.1 hL).1;simpa using this
  have hc':=hc
  unfold Miz at hc'
  have h1:=List.all_eq_true.1 hc' s (List.mem_range.2 hsl)
  rw[hL]at h1
  simp only[Bool.and_eq_true,Bool.or_eq_true,decide_eq_true_eq,Bool.not_eq_true']at h1
  obtain⟨⟨⟨g1,g2⟩,g3⟩,g4⟩:=h1
  unfold orders at ho
  rw[Ttz hl]at ho
  cases hr:DPz ops L with
  |nil=>
   rw[hr]at ho g1
   have hsp:s=plan.length:=g1.resolve_left (by decide)
   subst hsp
   rw[Nat.sub_self,hz]at hσ
   injection hσ with hσ
   subst hσ
   simp only[List.mem_singleton]at ho
   subst ho
   rfl
  |cons i r=>
   rw[hr]at ho
   simp only[List.mem_flatMap,List.mem_map]at ho
   obtain⟨j,hj,o',ho',rfl⟩:=ho
   have g5:=List.all_eq_true.1 g4 j (by rw[hr];exact hj)
   obtain⟨t,ht,g6⟩:=List.any_eq_true.1 g5
   have ht:=List.mem_range.1 ht
   have hp:plan[t]? =some plan[t]:=List.getElem?_eq_getElem ht
   rw[hp]at g6
   generalize plan[t]=e at hp g6
   simp only[Bool.and_eq_true,decide_eq_true_eq]at g6
   obtain⟨⟨⟨g7,g8⟩,g9⟩,g10⟩:=g6
   obtain⟨σ1,τ,k1,k2,k3⟩:=hs t e hp (t - s,j) (by simpa using g10)
   rw[show plan.length - t+(t - s)=plan.length - s by omega,hσ]at k1
   injection k1 with k1
   subst k1
   have h3:=ih (t+1) e.1 (j::l) τ (by rw[List.getElem?_cons_succ,List.getElem?_map,hp];rfl) k2 (fun x=>by rw[URz g7 x,List.contains_cons,List.contains_cons,hl x]) (by omega) o' ho'
   have k3:AYz E call N ops [j] σ=some τ:=k3
   have hj2:AYz E call N ops (j::o') σ=(AYz E call N ops [j] σ).bind (AYz E call N ops o'):=by
    simp only[AYz]
    cases ops[j]? with
    |none=>rfl
    |some x=>
     simp only
     cases Asz N ops x σ with
     |none=>rfl
     |some w=>
      simp only[Option.bind_some]
      rw[Option.bind_assoc]
      congr 1
   rw[hj2,k3]
   exact h3
theorem KIz {ops:Array Oper} {z:St}:∀{os:List (List Nat)} {σ:St},(∀o∈os,AYz E call N ops o σ=some z)→ESz E call N ops os z σ=some z
 |[],_,_=>rfl
 |o::os,σ,h=>by
  unfold ESz
  rw[h o (by simp)]
  simp only[Option.bind_some,if_true]
  exact KIz fun o ho=>h o (by simp[ho])
theorem Whz {ops:Array Oper} {σ:St} {L:Kont St} (plan:List (List Nat×List (Nat×Nat))) (hc:Miz ops plan=true) (h:DagP E call N ops plan [σ] fun σs=> @Wq _ (σs[0]?) L): @Wq _ (Egz E call N ops σ) L:=by
 obtain⟨pre,h1,h2,h3⟩:=P0z h
 obtain⟨z,hz,hL⟩:=h2
 have hf:=Q7z (E:=E) (call:=call) (N:=N) hc hz (by simp[h1]) h3 ops.size 0 [] [] σ rfl (by rw[Nat.sub_zero,List.getElem?_append_right (by omega),h1,Nat.sub_self];rfl) (fun _=>rfl) (by simp)
 have hr:Egz E call N ops σ=some z:=by
  unfold Egz
  cases ho:orders ops ops.size []with
  |nil=>obtain⟨o,h'⟩:=ITz (ops:=ops) ops.size [];rw[ho]at h';exact absurd h' (by simp)
  |cons o os=>
   simp only
   rw[hf o (by rw[ho];simp)]
   simp only[Option.bind_some]
   exact KIz fun o' h'=>hf o' (by rw[ho];simp[h'])
 rw[hr]
 exact⟨z,rfl,hL⟩
end
end Go.Proofs.YtblelojdboefjaaGreatDoor.R
namespace Go.Proofs.YtblelojdboefjaaGreatDoor.R
open Go
def Crz (x:TFs) (id:Int):TTab×Int×Int:=if id=0 then(Bpz,4000,0)else match x.Vols.find? (isId id)with
 |some v=>if v.Ro=true then(v.T,v.Limit,0)else(⟨[],0⟩,0,3)
 |none=>(⟨[],0⟩,0,2)
def EIz (x:TFs) (id:Int):List CV:=if id=0 then[.ow false 6 (Bpz.Inodes.map TInode.pv),.sh false (.i .i64 2)]else match x.Vols.find? (isId id)with
 |some v=>if v.Ro=true then[.sh true (.s 6 (v.T.Inodes.map TInode.pv)),.sh false (.i .i64 v.T.Next)]else[.ow false 6 [],.sh false (.i .i64 0)]
 |none=>[.ow false 6 [],.sh false (.i .i64 0)]
theorem Ltz:Bpz.Inodes.map TInode.pv=[[.i .i64 1,.i .i64 2,.i .i64 0,.s 1 [],.s 2 [],.s 2 []]]:=rfl
section
variable (n:Nat)
theorem QHz (hn:Big+1≤n):pcall env n 133 [] []=some ⟨.c .agg [.ow false 6 (Bpz.Inodes.map TInode.pv),.sh false (.i .i64 2)],[]⟩:=by
 refine walk (fn:=Tryz.f133) (d:=0) hn rfl rfl rfl (Nat.le_of_ble_eq_true rfl) fun m hd=> ?_
 unfold Tryz.f133
 rw[Ltz]
 simp only[go_sem,seval]
theorem QIz (hn:Big+1≤n):pcall env n 142 [] []=some ⟨.c .agg [.ow false 6 (Bpz.Inodes.map TInode.pv),.sh false (.i .i64 2)],[]⟩:=by
 refine walk (fn:=Tryz.f142) (d:=0) hn rfl rfl rfl (Nat.le_of_ble_eq_true rfl) fun m hd=> ?_
 unfold Tryz.f142
 rw[Ltz]
 simp only[go_sem,seval]
theorem N0z (hn:Big+3≤n) (x:TFs) (hx:x.ok) (id:Int):pcall env n 63 [.c .agg (x.pv.map AMz),.c .one [.sh false (.i .i64 (id))]] []=some ⟨.c (.tup [(true,2),(false,1)]) (EIz x id++[.sh false (.i .i64 (Crz x id).2.2)]),[]⟩:=by
 refine walk (fn:=Tryz.f63) (d:=2) hn rfl rfl rfl (Nat.le_of_ble_eq_true rfl) fun m hd=> ?_
 unfold Tryz.f63 EIz Crz
 have c1:=QHz m (hd (by decide))
 have c2:=FFz m (hd (by decide)) x hx id
 by_cases h0:id=0
 ·rw[if_pos h0,if_pos h0]
  have h0':(id==0)=true:=by simp[h0]
  try simp only[go_sem]at c1
  simp only[go_sem,seval,h0',c1]
 rw[if_neg h0,if_neg h0]
 have h0':(id==0)=false:=by simp[h0]
 rcases J0z (isId id) x.Vols with⟨e1,e2⟩|⟨j,v,e1,hv,e2⟩
 ·rw[e1]at c2
  rw[e2]
  try simp only[go_sem]at c2
  simp only[go_sem,seval,h0',c2]
 ·rw[e1]at c2
  rw[e2]
  have hj:((j:Int)<0)=False:=by simp
  try simp only[go_sem]at c2
  cases hr:v.Ro with
  |true=>
   simp only[if_pos]
   simp only[go_sem,seval,h0',c2,hj,hv,hr]
  |false=>
   simp only[Bool.false_eq_true,if_false]
   simp only[go_sem,seval,h0',c2,hj,hv,hr]
set_option maxHeartbeats 16000000 in
theorem OWz (hn:Big+6≤n) (x:TFs) (hx:x.ok) (id:Int):pcall env n 67 [.c .agg (x.pv.map AMz),.c .one [.sh false (.i .i64 (id))]] []=some ⟨.c (.tup [(true,2),(false,1),(false,1)]) (EIz x id++[.sh false (.i .i64 (Crz x id).2.1),.sh false (.i .i64 (Crz x id).2.2)]),[]⟩:=by
 refine walk (fn:=Tryz.f67) (d:=5) hn rfl rfl rfl (Nat.le_of_ble_eq_true rfl) fun m hd=> ?_
 unfold Tryz.f67 EIz Crz
 have c1:=QIz m (hd (by decide))
 have c2:=RQz m (hd (by decide)) x hx id
 by_cases h0:id=0
 ·rw[if_pos h0,if_pos h0]
  have h0':(id==0)=true:=by simp[h0]
  try simp only[go_sem]at c1
  simp only[go_sem,seval,h0',c1]
 rw[if_neg h0,if_neg h0]
 have h0':(id==0)=false:=by simp[h0]
 rcases J0z (isId id) x.Vols with⟨e1,e2⟩|⟨j,v,e1,hv,e2⟩
 ·rw[e1]at c2
  rw[e2]
  try simp only[go_sem]at c2
  simp only[go_sem,seval,h0',c2]
 ·rw[e1]at c2
  rw[e2]
  have hj:((j:Int)<0)=False:=by simp
  try simp only[go_sem]at c2
  cases hr:v.Ro with
  |true=>
   simp only[if_pos]
   simp only[go_sem,seval,h0',c2,hj,hv,hr]
   refine Whz [([0],[(0,0)]),([2],[(1,2)]),([6],[(2,6)]),([8],[(3,8)]),([1,0],[(3,1)]),([2,0],[(4,2),(3,0)]),([6,0],[(5,6),(3,0)]),([8,0],[(6,8),(3,0)]),([6,2],[(6,6),(5,2)]),([8,2],[(7,8),(5,2)]),([7,6],[(7,7)]),([8,6],[(8,8),(7,6)]),([2,1,0],[(7,2),(6,1)]),([6,1,0],[(8,6),(6,1)]),([8,1,0],[(9,8),(6,1)]),([6,2,0],[(9,6),(8,2),(6,0)]),([8,2,0],[(10,8),(8,2),(6,0)]),([7,6,0],[(10,7),(6,0)]),([8,6,0],[(11,8),(10,6),(6,0)]),([7,6,2],[(10,7),(8,2)]),([8,6,2],[(11,8),(10,6),(8,2)]),([8,7,6],[(10,8),(9,7)]),([3,2,1,0],[(9,3)]),([6,2,1,0],[(10,6),(9,2),(7,1)]),([8,2,1,0],[(11,8),(9,2),(7,1)]),([7,6,1,0],[(11,7),(7,1)]),([8,6,1,0],[(12,8),(11,6),(7,1)]),([7,6,2,0],[(11,7),(9,2),(7,0)]),([8,6,2,0],[(12,8),(11,6),(9,2),(7,0)]),([8,7,6,0],[(11,8),(10,7),(7,0)]),([8,7,6,2],[(10,8),(9,7),(8,2)]),([9,8,7,6],[(9,9)]),([4,3,2,1,0],[(9,4)]),([6,3,2,1,0],[(10,6),(9,3)]),([8,3,2,1,0],[(11,8),(9,3)]),([7,6,2,1,0],[(11,7),(9,2),(7,1)]),([8,6,2,1,0],[(12,8),(11,6),(9,2),(7,1)]),([8,7,6,1,0],[(11,8),(10,7),(7,1)]),([8,7,6,2,0],[(10,8),(9,7),(8,2),(7,0)]),([9,8,7,6,0],[(9,9),(7,0)]),([9,8,7,6,2],[(9,9),(8,2)]),([10,9,8,7,6],[(9,10)]),([5,4,3,2,1,0],[(9,5)]),([6,4,3,2,1,0],[(10,6),(9,4)]),([8,4,3,2,1,0],[(11,8),(9,4)]),([7,6,3,2,1,0],[(11,7),(9,3)]),([8,6,3,2,1,0],[(12,8),(11,6),(9,3)]),([8,7,6,2,1,0],[(11,8),(10,7),(9,2),(8,1)]),([9,8,7,6,1,0],[(10,9),(8,1)]),([9,8,7,6,2,0],[(10,9),(9,2),(8,0)]),([10,9,8,7,6,0],[(10,10),(8,0)]),([10,9,8,7,6,2],[(10,10),(9,2)]),([11,10,9,8,7,6],[(10,11)]),([6,5,4,3,2,1,0],[(10,6),(9,5)]),([8,5,4,3,2,1,0],[(11,8),(9,5)]),([12,5,4,3,2,1,0],[(12,12)]),([7,6,4,3,2,1,0],[(12,7),(10,4)]),([8,6,4,3,2,1,0],[(13,8),(12,6),(10,4)]),([8,7,6,3,2,1,0],[(12,8),(11,7),(10,3)]),([9,8,7,6,2,1,0],[(11,9),(10,2),(9,1)]),([10,9,8,7,6,1,0],[(11,10),(9,1)]),([10,9,8,7,6,2,0],[(11,10),(10,2),(9,0)]),([11,10,9,8,7,6,0],[(11,11),(9,0)]),([11,10,9,8,7,6,2],[(11,11),(10,2)]),([7,6,5,4,3,2,1,0],[(10,7),(7,5)]),([8,6,5,4,3,2,1,0],[(11,8),(10,6),(7,5)]),([12,6,5,4,3,2,1,0],[(12,12),(10,6)]),([12,8,5,4,3,2,1,0],[(12,12),(11,8)]),([8,7,6,4,3,2,1,0],[(11,8),(10,7),(9,4)]),([9,8,7,6,3,2,1,0],[(10,9),(9,3)]),([10,9,8,7,6,2,1,0],[(10,10),(9,2),(8,1)]),([11,10,9,8,7,6,1,0],[(10,11),(8,1)]),([11,10,9,8,7,6,2,0],[(10,11),(9,2),(8,0)]),([8,7,6,5,4,3,2,1,0],[(8,8),(7,7),(4,5)]),([12,7,6,5,4,3,2,1,0],[(9,12),(7,7)]),([12,8,6,5,4,3,2,1,0],[(9,12),(8,8),(7,6)]),([9,8,7,6,4,3,2,1,0],[(7,9),(6,4)]),([10,9,8,7,6,3,2,1,0],[(7,10),(6,3)]),([11,10,9,8,7,6,2,1,0],[(7,11),(6,2),(5,1)]),([9,8,7,6,5,4,3,2,1,0],[(5,9),(2,5)]),([12,8,7,6,5,4,3,2,1,0],[(6,12),(5,8),(4,7)]),([10,9,8,7,6,4,3,2,1,0],[(4,10),(3,4)]),([11,10,9,8,7,6,3,2,1,0],[(4,11),(3,3)]),([10,9,8,7,6,5,4,3,2,1,0],[(3,10),(1,5)]),([12,9,8,7,6,5,4,3,2,1,0],[(4,12),(3,9)]),([11,10,9,8,7,6,4,3,2,1,0],[(3,11),(2,4)]),([11,10,9,8,7,6,5,4,3,2,1,0],[(2,11),(0,5)]),([12,10,9,8,7,6,5,4,3,2,1,0],[(3,12),(2,10)]),([12,11,10,9,8,7,6,5,4,3,2,1,0],[(1,12),(0,11)]),([13,12,11,10,9,8,7,6,5,4,3,2,1,0],[(0,13)]),([14,13,12,11,10,9,8,7,6,5,4,3,2,1,0],[(0,14)])] (by kernel_rfl) ?_
   simp only[go_sem,seval,hv,hr]
  |false=>
   simp only[Bool.false_eq_true,if_false]
   simp only[go_sem,seval,h0',c2,hj,hv,hr]
end
theorem CDz (x:TFs) (hx:x.ok) (id:Int) (h0:(id==0)=false):(EIz x id=[.ow false 6 [],.sh false (.i .i64 0)]∧Crz x id=(⟨[],0⟩,0,2)∧atX (isId id) x.Vols= -1)∨
  (∃j:Nat,EIz x id=[.ow false 6 [],.sh false (.i .i64 0)]∧Crz x id=(⟨[],0⟩,0,3)∧atX (isId id) x.Vols=(j:Nat))∨
  ∃(j:Nat) (v:TVol),EIz x id=[.sh true (.s 6 (v.T.Inodes.map TInode.pv)),.sh false (.i .i64 v.T.Next)]∧Crz x id=(v.T,v.Limit,0)∧atX (isId id) x.Vols=(j:Nat)∧v∈x.Vols:=by
 have h0:id≠0:=by simpa using h0
 unfold EIz Crz
 rw[if_neg h0,if_neg h0]
 rcases J0z (isId id) x.Vols with⟨e1,e2⟩|⟨j,v,e1,hv,e2⟩
 ·rw[e2];exact .inl ⟨rfl,rfl,e1⟩
 ·rw[e2]
  cases hr:v.Ro with
  |true=>exact .inr (.inr ⟨j,v,by simp[hr],by simp[hr],e1,List.mem_of_getElem? hv⟩)
  |false=>exact .inr (.inl ⟨j,by simp[hr],by simp[hr],e1⟩)
theorem XUz {x:TFs} (h:fsB x=true):∀v∈x.Vols,1≤v.Id:=fun v hv=>by
 obtain⟨j,hj⟩:=List.getElem?_of_mem hv
 unfold fsB at h
 simp only[Bool.and_eq_true]at h
 have h1:AQz x j=true:=by
  cases e:AQz x j with
  |true=>rfl
  |false=>rw[A8z (List.getElem?_eq_some_iff.1 hj).1 e]at h;exact absurd h.2 (by decide)
 unfold AQz at h1
 rw[hj]at h1
 simp only at h1
 unfold volB at h1
 by_cases c:v.Id<1
 ·rw[if_pos c]at h1;exact absurd h1 (by decide)
 ·omega
theorem XVz {x:TFs} (h:fsB x=true):atX (isId 0) x.Vols= -1:=HDz fun i y _ hy=>by
 have:=XUz h y (List.mem_of_getElem? hy)
 unfold isId
 simp;omega
def BBz (z:Bool) (ka kb:Int) (o:List UInt8):List UInt8×Int:=match z||ka==2||kb==2 with
 |true=>([],2)
 |false=>match ka==3||kb==3 with
  |true=>([],3)
  |false=>match o with
   |[]=>([],9)
   |c::l=>(c::l,0)
noncomputable def HPz (x:TFs) (a b:Int):List UInt8×Int:=match fsB x with
 |false=>([],1)
 |true=>BBz (b==0) (Crz x a).2.2 (Crz x b).2.2 (putD (CUz (Crz x a).1 (Crz x b).1))
def A0z (p:List UInt8×Int):List CV:=[.ow false 1 (p.1.map bpv),.sh false (.i .i64 p.2)]
end Go.Proofs.YtblelojdboefjaaGreatDoor.R
