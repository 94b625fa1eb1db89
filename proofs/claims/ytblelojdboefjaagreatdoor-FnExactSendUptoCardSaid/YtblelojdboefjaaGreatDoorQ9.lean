/- Walking along a path; what is at its end. -/
import Derived.Test.YtblelojdboefjaaGreatDoorQ8
set_option linter.all false
set_option maxRecDepth 100000
namespace Go.Proofs.YtblelojdboefjaaGreatDoor.R
open Go
def BFz (l:List TInode):List (List UInt8)→Int→Int×Int
 |[],k=>(k,0)
 |nm::ns,k=>match AIz l k with
  |none=>(0,2)
  |some x=>match x.Kind==2 with
   |false=>(0,3)
   |true=>match entI x.Ents nm==0 with
    |true=>(0,2)
    |false=>BFz l ns (entI x.Ents nm)
def Amz (l:List TInode) (p:List UInt8):Int×Int:=match BJz p with
 |none=>(0,1)
 |some ns=>BFz l ns 1
theorem J4z {l:List TInode} {nm:List UInt8} {ns:List (List UInt8)} {k:Int} (h:AIz l k=none):BFz l (nm::ns) k=(0,2):=by
 simp only[BFz,h]
theorem J6z {l:List TInode} {nm:List UInt8} {ns:List (List UInt8)} {k:Int} {x:TInode} (h:AIz l k=some x) (hk:(x.Kind==2)=false):BFz l (nm::ns) k=(0,3):=by
 simp only[BFz,h,hk]
theorem J3z {l:List TInode} {nm:List UInt8} {ns:List (List UInt8)} {k:Int} {x:TInode} (h:AIz l k=some x) (hk:(x.Kind==2)=true) (he:(entI x.Ents nm==0)=true):BFz l (nm::ns) k=(0,2):=by
 simp only[BFz,h,hk,he]
theorem J5z {l:List TInode} {nm:List UInt8} {ns:List (List UInt8)} {k:Int} {x:TInode} (h:AIz l k=some x) (hk:(x.Kind==2)=true) (he:(entI x.Ents nm==0)=false):BFz l (nm::ns) k=BFz l ns (entI x.Ents nm):=by
 simp only[BFz,h,hk,he]
theorem EZz {α:Type} {l:List α} {i:Nat} {a:α} (h:l[i]? =some a):l.drop i=a::l.drop (i+1):=by
 obtain⟨hj,ha⟩:=List.getElem?_eq_some_iff.1 h
 rw[List.drop_eq_getElem_cons hj,ha]
theorem NHz {p:List UInt8} {ns:List (List UInt8)} (h:BJz p=some ns):ns.length≤30:=by
 unfold BJz at h
 split at h
 ·injection h with h;subst h;simp
 ·split at h
  ·split at h
   ·rename_i hc
    injection h with h;subst h
    simp only[Bool.and_eq_true,decide_eq_true_eq]at hc
    exact hc.1
   ·simp at h
  ·simp at h
def tup2 (w:Int×Int):List CV:=[.sh false (.i .i64 w.1),.sh false (.i .i64 w.2)]
set_option maxHeartbeats 4000000 in
theorem SOz (n:Nat) (hn:Big+4≤n) (t:TTab) (ht:t.ok) (ns:List (List UInt8)) (hns:ns.length≤Bd):pcall env n 241 [.c .agg (t.pv.map AMz),.c .one [.sh true (.s 1 (ns.map ppv))]] []=some ⟨.c (.tup [(false,1),(false,1)]) (tup2 (BFz t.Inodes ns 1)),[]⟩:=by
 obtain⟨m,rfl⟩:=AEz hn
 have hB:=ASz
 have hbd:Bd=1048576:=rfl
 refine ANz (ADz (fn:=Tryz.f241) rfl rfl rfl (Nat.le_of_ble_eq_true rfl) ?_)
 unfold Tryz.f241
 simp only[go_sem,seval]
 generalize hW:BFz t.Inodes ns 1=W
 refine AFz (fun r σ=>∃(i:Nat) (k:Int),i≤ns.length∧r=ns.length - i∧BFz t.Inodes (ns.drop i) k=W∧σ=slots 40 [(1,.c .one [.sh true (.s 1 (ns.map ppv))]),(2,.c .box [.sh true (.s 6 (t.Inodes.map TInode.pv)),.sh false (.i .i64 t.Next)]),(6,.c .one [.sh false (.i .i64 k)]),(7,.c .one [.sh false (.i .i64 (i:Nat))])]) ns.length (by omega) ?_ ?_
 ·simp only[go_sem,seval]
  exact⟨0,1,Nat.zero_le _,rfl,hW,rfl⟩
 ·rintro r σ ⟨i,k,hi,rfl,hw,rfl⟩
  by_cases hlt:i<ns.length
  ·have h1:((i:Int)<(ns.length:Int)):=by omega
   have hx:ns[i]? =some ns[i]:=List.getElem?_eq_getElem hlt
   generalize ns[i]=nm at hx
   rw[EZz hx]at hw
   have hl4:=G6z m (deep hn (by decide)) t ht k
   simp only[go_sem]at hl4
   rcases FCz t.Inodes k with⟨p1,p2⟩|⟨j,x,p1,hxj,p2⟩
   ·rw[J4z p2]at hw
    subst hw
    rw[p1]at hl4
    simp only[go_sem,seval,h1,hl4,tup2]
   ·have hno:AIz t.Inodes k=some x:=p2
    rw[p1]at hl4
    have hneg:¬((j:Int)<0):=by omega
    cases hk:(x.Kind==2)with
    |false=>
     have hk':(x.Kind !=2)=true:=by unfold bne;rw[hk];rfl
     rw[J6z hno hk]at hw
     subst hw
     simp only[go_sem,seval,h1,hl4,hneg,hxj,hk',tup2]
    |true=>
     have hk':(x.Kind !=2)=false:=by unfold bne;rw[hk];rfl
     have hxo:=ht.Inodes.1 _ (List.mem_of_getElem? hxj)
     have hen:=Q1z m (deep hn (by decide)) x hxo ⟨⟨nm⟩⟩
     simp only[go_sem]at hen
     cases he:(entI x.Ents nm==0)with
     |true=>
      rw[J3z hno hk he]at hw
      subst hw
      simp only[go_sem,seval,h1,hl4,hneg,hxj,hk',hx,hen,he,tup2]
      exact chk1 (by kernel_rfl)
     |false=>
      rw[J5z hno hk he]at hw
      simp only[go_sem,seval,h1,hl4,hneg,hxj,hk',hx,hen,he,ACz hlt (by omega)]
      exact chk (by kernel_rfl) ⟨_,by omega,i+1,_,hlt,rfl,hw,by with_reducible rfl⟩
  ·have h1:¬((i:Int)<(ns.length:Int)):=by omega
   obtain rfl:i=ns.length:=by omega
   rw[List.drop_length]at hw
   have hw:(k,(0:Int))=W:=hw
   subst hw
   simp only[go_sem,seval,h1,tup2]
theorem I9z (n:Nat) (hn:Big+5≤n) (t:TTab) (ht:t.ok) (p:List UInt8) (hp:p.length≤Bd):pcall env n 193 [.c .agg (t.pv.map AMz),pvSV (.t ⟨⟨p⟩⟩)] []=some ⟨.c (.tup [(false,1),(false,1)]) (tup2 (Amz t.Inodes p)),[]⟩:=by
 obtain⟨m,rfl⟩:=AEz hn
 have hbd:Bd=1048576:=rfl
 have hsp:=ICz m (deep hn (by decide)) p hp
 simp only[go_sem]at hsp
 refine ANz (ADz (fn:=Tryz.f193) rfl rfl rfl (Nat.le_of_ble_eq_true rfl) ?_)
 unfold Tryz.f193
 unfold Amz
 cases hpl:BJz p with
 |none=>
  rw[hpl]at hsp
  simp only[Ciz]at hsp
  simp only[go_sem,seval,hsp,tup2]
 |some ns=>
  rw[hpl]at hsp
  simp only[Ciz]at hsp
  have hw:=SOz m (deep hn (by decide)) t ht ns (Nat.le_trans (NHz hpl) (by decide))
  simp only[go_sem,tup2]at hw
  simp only[go_sem,seval,hsp,hw,tup2]
set_option maxHeartbeats 4000000 in
theorem Gmz (n:Nat) (hn:Big+8≤n) (t:TTab) (ht:t.ok) (p:List UInt8) (hp:p.length≤Bd):pcall env n 122 [.c .agg (t.pv.map AMz),pvSV (.t ⟨⟨p⟩⟩)] []=some ⟨.c (.tup [(false,1),(false,1)]) (tup2 (Amz t.Inodes p)),[]⟩:=by
 obtain⟨m,rfl⟩:=AEz hn
 have hB:=ASz
 have hbd:Bd=1048576:=rfl
 have hsp:=IEz m (deep hn (by decide)) p hp
 simp only[go_sem]at hsp
 refine ANz (ADz (fn:=Tryz.f122) rfl rfl rfl (Nat.le_of_ble_eq_true rfl) ?_)
 unfold Tryz.f122
 cases hpl:BJz p with
 |none=>
  rw[show Amz t.Inodes p=(0,1)by unfold Amz;rw[hpl]]
  rw[hpl]at hsp
  simp only[DOz]at hsp
  simp only[go_sem,seval,hsp,tup2]
 |some ns=>
  rw[show Amz t.Inodes p=BFz t.Inodes ns 1 by unfold Amz;rw[hpl]]
  rw[hpl]at hsp
  have hnl:=NHz hpl
  cases ns with
  |nil=>
   simp only[DOz]at hsp
   simp only[go_sem,seval,hsp,tup2]
   refine CEz (by omega) ?_
   simp only[go_sem,seval,tup2,BFz]
  |cons a ns=>
  simp only[DOz]at hsp
  generalize hqs:a::ns=qs at hsp hnl ⊢
  generalize hW:BFz t.Inodes qs 1=W
  simp only[go_sem,seval,hsp,tup2]
  refine AFz (fun r σ=>∃(i:Nat) (k:Int),i≤qs.length∧r=qs.length - i∧BFz t.Inodes (qs.drop i) k=W∧σ=slots 46 [(2,.c .box [.sh true (.s 6 (t.Inodes.map TInode.pv)),.sh false (.i .i64 t.Next)]),(8,.c .one [.sh false (.i .i64 k)]),(20,.c .one [.sh false (.s 1 (qs.map ppv))]),(21,.c .one [.sh false (.i .i64 (qs.length:Nat))]),(22,.c .one [.sh false (.i .i64 (i:Nat))])]) qs.length (by omega) ?_ ?_
  ·simp only[go_sem,seval]
   exact⟨0,1,Nat.zero_le _,rfl,hW,rfl⟩
  ·rintro r σ ⟨i,k,hi,rfl,hw,rfl⟩
   by_cases hlt:i<qs.length
   ·have h1:((i:Int)<(qs.length:Int)):=by omega
    have hx:qs[i]? =some qs[i]:=List.getElem?_eq_getElem hlt
    generalize qs[i]=nm at hx
    rw[EZz hx]at hw
    have hat:=B9z m (deep hn (by decide)) t ht k
    simp only[go_sem]at hat
    unfold atC at hat
    cases hf:AIz t.Inodes k with
    |none=>
     rw[J4z hf]at hw
     unfold AIz at hf
     rw[hf]at hat
     simp only[go_sem,B1z]at hat
     subst hw
     simp only[go_sem,seval,h1,hx,hat,tup2]
    |some x=>
     have hno:=hf
     have hxo:=ht.Inodes.1 _ (Axz hf).1
     unfold AIz at hf
     rw[hf]at hat
     simp only[go_sem,BUz]at hat
     cases hk:(x.Kind==2)with
     |false=>
      have hk':(x.Kind !=2)=true:=by unfold bne;rw[hk];rfl
      rw[J6z hno hk]at hw
      subst hw
      simp only[go_sem,seval,h1,hx,hat,hk',tup2]
     |true=>
      have hk':(x.Kind !=2)=false:=by unfold bne;rw[hk];rfl
      have hen:=Q2z m (deep hn (by decide)) x hxo ⟨⟨nm⟩⟩
      simp only[go_sem]at hen
      cases he:(entI x.Ents nm==0)with
      |true=>
       rw[J3z hno hk he]at hw
       subst hw
       simp only[go_sem,seval,h1,hx,hat,hk',hen,he,tup2]
      |false=>
       rw[J5z hno hk he]at hw
       simp only[go_sem,seval,h1,hx,hat,hk',hen,he,ACz hlt (by omega)]
       exact⟨_,by omega,i+1,_,hlt,rfl,hw,by with_reducible rfl⟩
   ·have h1:¬((i:Int)<(qs.length:Int)):=by omega
    obtain rfl:i=qs.length:=by omega
    rw[List.drop_length]at hw
    have hw:(k,(0:Int))=W:=hw
    subst hw
    simp only[go_sem,seval,h1,tup2]
def HJz (l:List TInode) (p:List UInt8):List CV:=match(Amz l p).2==0 with
 |false=>B1z++[.sh false (.i .i64 (Amz l p).2)]
 |true=>match AIz l (Amz l p).1 with
  |none=>B1z++[.sh false (.i .i64 2)]
  |some x=>BUz x++[.sh false (.i .i64 0)]
set_option maxHeartbeats 4000000 in
theorem Otz (n:Nat) (hn:Big+9≤n) (t:TTab) (ht:t.ok) (p:List UInt8) (hp:p.length≤Bd):pcall env n 87 [.c .agg (t.pv.map AMz),pvSV (.t ⟨⟨p⟩⟩)] []=some ⟨.c (.tup [(true,6),(false,1)]) (HJz t.Inodes p),[]⟩:=by
 obtain⟨m,rfl⟩:=AEz hn
 have hbd:Bd=1048576:=rfl
 have hwk:=Gmz m (deep hn (by decide)) t ht p hp
 have hat:=B9z m (deep hn (by decide)) t ht (Amz t.Inodes p).1
 simp only[go_sem,tup2]at hwk hat
 refine ANz (ADz (fn:=Tryz.f87) rfl rfl rfl (Nat.le_of_ble_eq_true rfl) ?_)
 unfold Tryz.f87
 unfold HJz
 cases hc:((Amz t.Inodes p).2==0)with
 |false=>
  have hc':((Amz t.Inodes p).2 !=0)=true:=by unfold bne;rw[hc];rfl
  simp only[go_sem,seval,hwk,hc',B1z]
 |true=>
  have hc':((Amz t.Inodes p).2 !=0)=false:=by unfold bne;rw[hc];rfl
  unfold atC at hat
  cases hf:AIz t.Inodes (Amz t.Inodes p).1 with
  |none=>
   unfold AIz at hf
   rw[hf]at hat
   simp only[go_sem,B1z]at hat
   simp only[go_sem,seval,hwk,hc',hat,B1z]
  |some x=>
   unfold AIz at hf
   rw[hf]at hat
   simp only[go_sem,BUz]at hat
   simp only[go_sem,seval,hwk,hc',hat,BUz]
set_option maxHeartbeats 4000000 in
theorem Osz (n:Nat) (hn:Big+9≤n) (t:TTab) (ht:t.ok) (p:List UInt8) (hp:p.length≤Bd):pcall env n 111 [.c .agg (t.pv.map AMz),pvSV (.t ⟨⟨p⟩⟩)] []=some ⟨.c (.tup [(true,6),(false,1)]) (HJz t.Inodes p),[]⟩:=by
 obtain⟨m,rfl⟩:=AEz hn
 have hbd:Bd=1048576:=rfl
 have hwk:=I9z m (deep hn (by decide)) t ht p hp
 have hat:=C5z m (deep hn (by decide)) t ht (Amz t.Inodes p).1
 simp only[go_sem,tup2]at hwk hat
 refine ANz (ADz (fn:=Tryz.f111) rfl rfl rfl (Nat.le_of_ble_eq_true rfl) ?_)
 unfold Tryz.f111
 unfold HJz
 cases hc:((Amz t.Inodes p).2==0)with
 |false=>
  have hc':((Amz t.Inodes p).2 !=0)=true:=by unfold bne;rw[hc];rfl
  simp only[go_sem,seval,hwk,hc',B1z]
 |true=>
  have hc':((Amz t.Inodes p).2 !=0)=false:=by unfold bne;rw[hc];rfl
  unfold atC at hat
  cases hf:AIz t.Inodes (Amz t.Inodes p).1 with
  |none=>
   unfold AIz at hf
   rw[hf]at hat
   simp only[go_sem,B1z]at hat
   simp only[go_sem,seval,hwk,hc',hat,B1z]
  |some x=>
   unfold AIz at hf
   rw[hf]at hat
   simp only[go_sem,BUz]at hat
   simp only[go_sem,seval,hwk,hc',hat,BUz]
end Go.Proofs.YtblelojdboefjaaGreatDoor.R
namespace Go.Proofs.YtblelojdboefjaaGreatDoor.R
open Go
def Avz (l:List TInode) (k:Int):List TEnt:=match AIz l k with
 |some x=>x.Ents
 |none=>[]
def own (l:List TInode) (k:Int):List Int:=(Avz l k).map (·.Ino)
def lv (l:List TInode):Nat→List Int→List Int
 |0,s=>s
 |k+1,s=>lv l k (s.flatMap (own l))
theorem EUz (l:List TInode):∀(k:Nat) (s:List Int),lv l (k+1) s=(lv l k s).flatMap (own l)
 |0,s=>rfl
 |k+1,s=>EUz l k (s.flatMap (own l))
theorem SGz (l:List TInode):∀k,lv l k []=[]
 |0=>rfl
 |k+1=>SGz l k
theorem FOz (l:List TInode):∀(k:Nat) (a b:List Int),lv l k (a++b)=lv l k a++lv l k b
 |0,a,b=>rfl
 |k+1,a,b=>by simp only[lv,List.flatMap_append];exact FOz l k _ _
theorem XBz {l:List TInode} {k:Nat} {s:List Int} (h:lv l k s=[]) {d:Int} (hd:d∈s):lv l k [d]=[]:=by
 obtain⟨a,b,rfl⟩:=List.append_of_mem hd
 rw[show a++d::b=a++([d]++b)from rfl,FOz,FOz]at h
 simp only[List.append_eq_nil_iff]at h
 exact h.2.1
structure Tree (l:List TInode):Prop where
 one:∀d y,own l d≠[]→(own l y).count d≤1
 par:∀d y z,own l d≠[]→d∈own l y→d∈own l z→y=z
 root:∀y,¬(1:Int)∈own l y
 few:l.length≤30
 ten:∀y,(own l y).length≤10
theorem PZz {g:Int→Nat}:∀{L:List Int},(∀y,g y≤1)→(∀y z,0<g y→0<g z→y=z)→(∀y,0<g y→L.count y≤1)→(L.map g).sum≤1
 |[],_,_,_=>by simp
 |a::L,h1,h2,h3=>by
  simp only[List.map_cons,List.sum_cons]
  by_cases ha:g a=0
  ·rw[ha,Nat.zero_add]
   exact PZz h1 h2 fun y hy=>Nat.le_trans (List.count_le_count_cons) (h3 y hy)
  ·have hpos:0<g a:=Nat.pos_of_ne_zero ha
   have hz:(L.map g).sum=0:=by
    have:∀y∈L,g y=0:=fun y hy=>by
     refine Classical.byContradiction fun hne=> ?_
     have e:=h2 a y hpos (Nat.pos_of_ne_zero hne)
     subst e
     have:=h3 a hpos
     rw[List.count_cons_self]at this
     have:=List.count_pos_iff.2 hy
     omega
    clear h3 h2
    induction L with
    |nil=>rfl
    |cons b L ih=>
     simp only[List.map_cons,List.sum_cons]
     rw[this b (by simp),ih fun y hy=>this y (by simp[hy])]
   have:=h1 a
   omega
theorem K0z (l:List TInode) (d:Int):∀L:List Int,(L.flatMap (own l)).count d=(L.map fun y=>(own l y).count d).sum
 |[]=>by simp
 |a::L=>by simp only[List.flatMap_cons,List.count_append,List.map_cons,List.sum_cons,K0z l d L]
theorem Nez (l:List TInode):∀L:List Int,(L.flatMap (own l)).length=(L.map fun y=>(own l y).length).sum
 |[]=>by simp
 |a::L=>by simp only[List.flatMap_cons,List.length_append,List.map_cons,List.sum_cons,Nez l L]
theorem Tree.lev {l:List TInode} (h:Tree l) (y0:Int):∀k d,own l d≠[]→(lv l k (own l y0)).count d≤1
 |0,d,hd=>h.one d y0 hd
 |k+1,d,hd=>by
  rw[EUz,K0z]
  refine PZz (fun y=>h.one d y hd) (fun y z hy hz=>h.par d y z hd (List.count_pos_iff.1 hy) (List.count_pos_iff.1 hz)) fun y hy=> ?_
  refine Tree.lev h y0 k y fun e=> ?_
  rw[e]at hy
  simp at hy
theorem Fhz {l:List TInode} {d:Int} (h:own l d≠[]):d∈l.map (·.Ino):=by
 unfold own Avz at h
 cases hx:AIz l d with
 |none=>rw[hx]at h;simp at h
 |some x=>
  obtain⟨h1,h2⟩:=Axz hx
  exact List.mem_map.2 ⟨x,h1,h2⟩
theorem JMz:∀{L:List Int},(∀d∈L,L.count d≤1)→L.Nodup
 |[],_=>List.nodup_nil
 |a::L,h=>by
  refine List.nodup_cons.2 ⟨fun ha=> ?_,JMz fun d hd=>Nat.le_trans List.count_le_count_cons (h d (by simp[hd]))⟩
  have:=h a (by simp)
  rw[List.count_cons_self]at this
  have:=List.count_pos_iff.2 ha
  omega
theorem HIz {g:Int→Nat}:∀L:List Int,(L.map g).sum=((L.filter fun d=>g d !=0).map g).sum
 |[]=>rfl
 |a::L=>by
  simp only[List.map_cons,List.sum_cons,List.filter_cons]
  by_cases ha:g a=0
  ·simp[ha,HIz L]
  ·simp[ha,HIz L]
theorem PYz {g:Int→Nat} (hg:∀d,g d≤10):∀L:List Int,(L.map g).sum≤L.length*10
 |[]=>by simp
 |a::L=>by
  have:=PYz hg L
  have:=hg a
  simp only[List.map_cons,List.sum_cons,List.length_cons]
  omega
theorem Tree.wide {l:List TInode} (h:Tree l) (y0:Int):∀k,(lv l k (own l y0)).length≤300
 |0=>Nat.le_trans (h.ten y0) (by decide)
 |k+1=>by
  rw[EUz,Nez,HIz]
  generalize hL:(lv l k (own l y0)).filter (fun d=>(own l d).length !=0)=L
  have hne:∀d∈L,own l d≠[]:=fun d hd e=>by
   subst hL
   have:=(List.mem_filter.1 hd).2
   rw[e]at this
   simp at this
  have hnd:L.Nodup:=JMz fun d hd=>by
   have h1:=h.lev y0 k d (hne d hd)
   subst hL
   exact Nat.le_trans (List.Sublist.count_le d List.filter_sublist) h1
  have h1:=C8z hnd fun d hd=>Fhz (hne d hd)
  have h2:=PYz h.ten L
  have h3:=h.few
  simp only[List.length_map]at h1
  omega
theorem Tree.apart {l:List TInode} (h:Tree l):∀(i j:Nat) (d:Int),i<j→own l d≠[]→d∈lv l i (own l 1)→¬d∈lv l j (own l 1)
 |0,j+1,d,_,hd,hi,hj=>by
  rw[EUz]at hj
  obtain⟨y,hy,hdy⟩:=List.mem_flatMap.1 hj
  have e:=h.par d 1 y hd hi hdy
  subst e
  cases j with
  |zero=>exact h.root 1 hy
  |succ j=>
   rw[EUz]at hy
   obtain⟨z,_,hz⟩:=List.mem_flatMap.1 hy
   exact h.root z hz
 |i+1,j+1,d,hij,hd,hi,hj=>by
  rw[EUz]at hi hj
  obtain⟨y,hy,hdy⟩:=List.mem_flatMap.1 hi
  obtain⟨z,hz,hdz⟩:=List.mem_flatMap.1 hj
  have e:=h.par d y z hd hdy hdz
  subst e
  exact h.apart i j y (by omega) (fun e=>by rw[e]at hdy;simp at hdy) hy hz
theorem Tree.noRoot {l:List TInode} (h:Tree l):∀k,¬(1:Int)∈lv l k (own l 1)
 |0,h1=>h.root 1 h1
 |k+1,h1=>by
  rw[EUz]at h1
  obtain⟨y,_,hy⟩:=List.mem_flatMap.1 h1
  exact h.root y hy
theorem Tree.chain {l:List TInode} (h:Tree l):∀k,lv l k (own l 1)≠[]→∃L:List Int,L.length=k∧L.Nodup∧∀d∈L,own l d≠[]∧∃i,i<k∧d∈lv l i (own l 1)
 |0,_=>⟨[],rfl,List.nodup_nil,fun d hd=>by simp at hd⟩
 |k+1,hne=>by
  rw[EUz]at hne
  have:∃d,d∈lv l k (own l 1)∧own l d≠[]:=by
   refine Classical.byContradiction fun hno=>hne ?_
   rw[List.flatMap_eq_nil_iff]
   intro d hd
   exact Classical.byContradiction fun he=>hno ⟨d,hd,he⟩
  obtain⟨d,hd,hod⟩:=this
  obtain⟨L,h1,h2,h3⟩:=h.chain k fun e=>by rw[e]at hd;simp at hd
  refine⟨d::L,by simp[h1],List.nodup_cons.2 ⟨fun hdL=> ?_,h2⟩,fun a ha=> ?_⟩
  ·obtain⟨_,i,hi,hdi⟩:=h3 d hdL
   exact h.apart i k d hi hod hdi hd
  ·rcases List.mem_cons.1 ha with rfl|ha
   ·exact⟨hod,k,Nat.lt_succ_self k,hd⟩
   ·obtain⟨q1,i,hi,q2⟩:=h3 a ha
    exact⟨q1,i,by omega,q2⟩
theorem Tree.low {l:List TInode} (h:Tree l):lv l 30 (own l 1)=[]:=by
 refine Classical.byContradiction fun hne=> ?_
 obtain⟨L,h1,h2,h3⟩:=h.chain 30 hne
 have h4:=C8z (L:=L) (M:=l.map (·.Ino)) h2 fun d hd=>Fhz (h3 d hd).1
 have hroot:own l 1≠[]:=fun e=>by rw[e,SGz]at hne;exact hne rfl
 have h5:=C8z (L:=1::L) (M:=l.map (·.Ino)) (List.nodup_cons.2 ⟨fun h1L=>by
  obtain⟨_,i,_,hi⟩:=h3 1 h1L
  exact h.noRoot i hi,h2⟩) fun d hd=>by
   rcases List.mem_cons.1 hd with rfl|hd
   ·exact Fhz hroot
   ·exact Fhz (h3 d hd).1
 have:=h.few
 simp only[List.length_cons,List.length_map]at h5
 omega
end Go.Proofs.YtblelojdboefjaaGreatDoor.R
namespace Go.Proofs.YtblelojdboefjaaGreatDoor.R
open Go
theorem Bnz {t:TTab} (h:AXz t=true):tabI t=true∧(∀x∈t.Inodes,Auz x=true∧((BKz t.Inodes x.Ino:Nat):Int)=x.Links∧FTz t.Inodes x=true):=by
 unfold AXz at h
 simp only[Bool.and_eq_true]at h
 refine⟨h.1.1,fun x hx=> ?_⟩
 obtain⟨i,hi⟩:=List.getElem?_of_mem hx
 have hlt:=(List.getElem?_eq_some_iff.1 hi).1
 have h1:=DLz h.2 hlt
 unfold Boz Iuz at h1
 rw[hi]at h1
 simp only[Bool.and_eq_true,beq_iff_eq]at h1
 have h0:=h.1.1
 unfold tabI at h0
 simp only[Bool.and_eq_true]at h0
 have h2:=h0.1.2
 unfold Clz at h2
 have h3:=DLz h2 hlt
 unfold BWz E0z at h3
 rw[hi]at h3
 simp only[Bool.and_eq_true]at h3
 exact⟨h3.1.1,h1.1,h1.2⟩
theorem MIz {x:TInode} (h:Auz x=true) (he:x.Ents≠[]):(x.Kind==2)=true∧x.Links≤1:=by
 unfold Auz at h
 simp only[Bool.and_eq_true]at h
 have hk:=h.2
 unfold Fkz at hk
 split at hk
 ·rename_i h1
  have:x.Ents.length=0:=by simpa using hk
  exact absurd (List.length_eq_zero_iff.1 this) he
 ·split at hk
  ·rename_i h2
   simp only[Bool.and_eq_true,decide_eq_true_eq]at hk
   exact⟨h2,hk.2⟩
  ·simp at hk
theorem Qpz {x:TInode} (h:Auz x=true) (h1:x.Ino=1):x.Links=0:=by
 unfold Auz at h
 simp only[Bool.and_eq_true]at h
 have:=h.1.1.1.1.2.2
 rw[h1]at this
 simpa using this
theorem HZz {l:List TInode} {x:TInode} {d:Int} (hx:x∈l):D8z x d≤BKz l d:=by
 unfold BKz
 induction l with
 |nil=>simp at hx
 |cons a l ih=>
  simp only[List.map_cons,List.sum_cons]
  rcases List.mem_cons.1 hx with rfl|hx
  ·omega
  ·have:=ih hx;omega
theorem SHz {l:List TInode} {x y:TInode} {d:Int} (hx:x∈l) (hy:y∈l) (hne:x.Ino≠y.Ino):D8z x d+D8z y d≤BKz l d:=by
 unfold BKz
 induction l with
 |nil=>simp at hx
 |cons a l ih=>
  simp only[List.map_cons,List.sum_cons]
  rcases List.mem_cons.1 hx with rfl|hx2
  ·rcases List.mem_cons.1 hy with rfl|hy2
   ·exact absurd rfl hne
   ·have:=HZz (d:=d) hy2;unfold BKz at this;omega
  ·rcases List.mem_cons.1 hy with rfl|hy2
   ·have:=HZz (d:=d) hx2;unfold BKz at this;omega
   ·have:=ih hx2 hy2;omega
theorem Ndz (es:List TEnt) (d:Int):D9z es d=(es.map (·.Ino)).count d:=by
 unfold D9z
 rw[List.count_eq_countP,List.countP_map]
 congr 1
theorem GZz {t:TTab} (h:AXz t=true) {y d:Int} (hd:d∈own t.Inodes y):∃x∈t.Inodes,x.Ino=y∧(own t.Inodes y).count d=D8z x d:=by
 unfold own Avz at hd ⊢
 cases hx:AIz t.Inodes y with
 |none=>rw[hx]at hd;simp at hd
 |some x=>
  rw[hx]at hd
  obtain⟨h1,h2⟩:=Axz hx
  refine⟨x,h1,h2,?_⟩
  have hne:x.Ents≠[]:=fun e=>by simp only[e]at hd;simp at hd
  rw[Joz (MIz ((Bnz h).2 x h1).1 hne).1,Ndz]
theorem Pzz {t:TTab} (h:AXz t=true) {d:Int} (hd:own t.Inodes d≠[]):BKz t.Inodes d≤1:=by
 unfold own Avz at hd
 cases hx:AIz t.Inodes d with
 |none=>rw[hx]at hd;simp at hd
 |some x=>
  rw[hx]at hd
  obtain⟨h1,h2⟩:=Axz hx
  have hne:x.Ents≠[]:=fun e=>hd (by simp only[e];rfl)
  obtain⟨q1,q2,_⟩:=(Bnz h).2 x h1
  have:=(MIz q1 hne).2
  rw[h2]at q2
  omega
theorem PRz {t:TTab} (h:AXz t=true):Tree t.Inodes:=by
 have hs:=Jcz (Bnz h).1
 refine⟨fun d y hd=> ?_,fun d y z hd hy hz=> ?_,fun y hy=> ?_,hs.n,fun y=> ?_⟩
 ·by_cases hm:d∈own t.Inodes y
  ·obtain⟨x,hx,_,hc⟩:=GZz h hm
   have h1:=HZz (d:=d) hx
   have h2:=Pzz h hd
   omega
  ·rw[List.count_eq_zero.2 hm];omega
 ·obtain⟨a,ha,hay,hca⟩:=GZz h hy
  obtain⟨b,hb,hbz,hcb⟩:=GZz h hz
  have h1:=List.count_pos_iff.2 hy
  have h2:=List.count_pos_iff.2 hz
  have h3:=Pzz h hd
  refine Classical.byContradiction fun hne=> ?_
  have:=SHz (d:=d) ha hb (by rw[hay,hbz];exact hne)
  omega
 ·obtain⟨a,ha,hay,hca⟩:=GZz h hy
  have h1:=List.count_pos_iff.2 hy
  have h2:=HZz (d:=1) ha
  have h0:=(Bnz h).1
  unfold tabI Fez at h0
  simp only[Bool.and_eq_true]at h0
  have h3:=h0.2
  cases hr:t.Inodes.find? (fun x=>x.Ino==1)with
  |none=>rw[hr]at h3;simp at h3
  |some r=>
   obtain⟨q1,q2⟩:=Axz (l:=t.Inodes) (k:=1) hr
   obtain⟨q3,q4,_⟩:=(Bnz h).2 r q1
   rw[q2]at q4
   have:=Qpz q3 q2
   omega
 ·unfold own Avz
  cases hx:AIz t.Inodes y with
  |none=>simp
  |some x=>rw[List.length_map];exact hs.e x (Axz hx).1
def AVz (l:List TInode):Nat→List TEnt→List UInt8→List (List UInt8)
 |0,_,_=>[]
 |f+1,es,p=>es.flatMap fun e=>(p++[47]++e.Name.toList)::AVz l f (Avz l e.Ino) (p++[47]++e.Name.toList)
structure Flat' (l:List TInode) (f:Nat) (s:List Int):Prop where
 low:lv l f s=[]
 wide:∀k,(lv l k s).length≤300
def cntN (l:List TInode):Nat→List Int→Nat
 |0,_=>0
 |f+1,s=>(s.map fun d=>1+cntN l f (own l d)).sum
theorem Q9z (l:List TInode):∀(f:Nat) (a b:List Int),cntN l f (a++b)=cntN l f a+cntN l f b
 |0,a,b=>rfl
 |f+1,a,b=>by simp[cntN]
theorem OKz (l:List TInode) (f:Nat):∀s:List Int,cntN l (f+1) s=s.length+cntN l f (s.flatMap (own l))
 |[]=>by cases f<;>simp[cntN]
 |a::s=>by
  have:=OKz l f s
  simp only[cntN,List.map_cons,List.sum_cons,List.length_cons,List.flatMap_cons,Q9z]at this ⊢
  omega
theorem Szz (l:List TInode):∀(f:Nat) (s:List Int),(∀k,(lv l k s).length≤300)→cntN l f s≤f*300
 |0,s,_=>Nat.le_refl 0
 |f+1,s,h=>by
  rw[OKz]
  have h1:=h 0
  have h2:=Szz l f (s.flatMap (own l)) fun k=>h (k+1)
  simp only[lv]at h1
  omega
theorem L2z (l:List TInode):∀(f:Nat) (es:List TEnt) (p:List UInt8),(AVz l f es p).length=cntN l f (es.map (·.Ino))
 |0,es,p=>rfl
 |f+1,es,p=>by
  simp only[AVz,cntN,List.length_flatMap,List.map_map]
  congr 1
  refine List.map_congr_left fun e _=> ?_
  have:=L2z l f (Avz l e.Ino) (p++[47]++e.Name.toList)
  simp only[List.length_cons,Function.comp,this,own]
  omega
end Go.Proofs.YtblelojdboefjaaGreatDoor.R
namespace Go.Proofs.YtblelojdboefjaaGreatDoor.R
open Go
theorem KRz (l:List TInode) (f:Nat) (es:List TEnt) (e:TEnt) (p:List UInt8):AVz l (f+1) (es++[e]) p=AVz l (f+1) es p++((p++[47]++e.Name.toList)::AVz l f (Avz l e.Ino) (p++[47]++e.Name.toList)):=by
 simp[AVz]
theorem KQz {l:List TInode} {f:Nat} {es:List TEnt} {p:List UInt8} (i:Nat):(AVz l (f+1) (es.take i) p).length≤(AVz l (f+1) es p).length:=by
 have:AVz l (f+1) es p=AVz l (f+1) (es.take i) p++AVz l (f+1) (es.drop i) p:=by
  simp only[AVz]
  rw[←List.flatMap_append,List.take_append_drop]
 rw[this,List.length_append];omega
theorem Qhz {l:List TInode} {k:Nat} {s:List Int} {d:Int} (hd:d∈s):(lv l k [d]).length≤(lv l k s).length:=by
 obtain⟨a,b,rfl⟩:=List.append_of_mem hd
 rw[show a++d::b=a++([d]++b)from rfl,FOz,FOz,List.length_append,List.length_append];omega
theorem Flat'.down {l:List TInode} {f:Nat} {s:List Int} (h:Flat' l (f+1) s) {d:Int} (hd:d∈s):Flat' l f (own l d):=by
 have h1:∀k,lv l (k+1) [d]=lv l k (own l d):=fun k=>by simp only[lv,List.flatMap_cons,List.flatMap_nil,List.append_nil]
 refine⟨?_,fun k=> ?_⟩
 ·rw[←h1];exact XBz h.low hd
 ·rw[←h1];exact Nat.le_trans (Qhz hd) (h.wide (k+1))
theorem Flat'.cnt {l:List TInode} {f:Nat} {es:List TEnt} (h:Flat' l f (es.map (·.Ino))) (p:List UInt8):(AVz l f es p).length≤f*300:=by
 rw[L2z];exact Szz l f _ h.wide
def DCz:TInode:=⟨0,0,0,[],[],[]⟩
theorem Mjz:DCz.ok:=⟨by unfold inR DCz;decide,by unfold inR DCz;decide,by unfold inR DCz;decide,⟨fun y hy=>by simp[DCz]at hy,Nat.zero_le _⟩,⟨fun y hy=>by simp[DCz]at hy,Nat.zero_le _⟩,⟨fun y hy=>by simp[DCz]at hy,Nat.zero_le _⟩⟩
theorem Lpz (nm:List UInt8):ByteArray.toList ⟨⟨nm⟩⟩=nm:=Riz
set_option maxHeartbeats 4000000 in
theorem Ulz (t:TTab) (ht:t.ok):∀(f:Nat),f≤40→∀(n:Nat),Big+(7+f)≤n→∀(x:TInode),x.ok→Flat' t.Inodes f (x.Ents.map (·.Ino))→∀(p:List UInt8),p.length+f*1048577≤100000000→
  pcall env n 203 [.c .agg (t.pv.map AMz),.c .agg (x.pv.map AMz),pvSV (.t ⟨⟨p⟩⟩)] []=some ⟨.c .one [.ow false 1 ((AVz t.Inodes f x.Ents p).map ppv)],[]⟩:=by
 intro f
 induction f with
 |zero=>
  intro hf n hn x hx hfl p hp
  obtain⟨m,rfl⟩:=AEz hn
  have hB:=ASz
  have he:x.Ents=[]:=by
   have:=hfl.low
   simpa[lv]using this
  refine ANz (ADz (fn:=Tryz.f203) rfl rfl rfl (Nat.le_of_ble_eq_true rfl) ?_)
  unfold Tryz.f203
  simp only[go_sem,seval,he]
  refine CEz (by omega) ?_
  simp only[go_sem,seval,he,AVz]
 |succ f ih=>
  intro hf n hn x hx hfl p hp
  obtain⟨m,rfl⟩:=AEz hn
  have hB:=ASz
  have hbd:Bd=1048576:=rfl
  have hlim:LIM=70368744177664:=rfl
  have hel:=hx.Ents.2
  have hcn:=hfl.cnt p
  have hm:Big+(7+f)≤m:=by omega
  refine ANz (ADz (fn:=Tryz.f203) rfl rfl rfl (Nat.le_of_ble_eq_true rfl) ?_)
  unfold Tryz.f203
  simp only[go_sem,seval]
  refine AFz (fun r σ=>∃i:Nat,i≤x.Ents.length∧r=x.Ents.length - i∧σ=slots 45 [(2,.c .one [.sh false (.t ⟨⟨p⟩⟩)]),(3,.c .box [.sh true (.s 6 (t.Inodes.map TInode.pv)),.sh false (.i .i64 t.Next)]),(4,.c .box [.sh false (.i .i64 x.Ino),.sh false (.i .i64 x.Kind),.sh false (.i .i64 x.Links),.sh true (.s 1 (x.Data.map bpv)),.sh true (.s 2 (x.Ents.map TEnt.pv)),.sh true (.s 2 (x.Attrs.map TAttr.pv))]),(7,.c .one [.ow false 1 ((AVz t.Inodes (f+1) (x.Ents.take i) p).map ppv)]),(15,.c .one [.sh true (.s 2 (x.Ents.map TEnt.pv))]),(16,.c .one [.sh false (.i .i64 (x.Ents.length:Nat))]),(17,.c .one [.sh false (.i .i64 (i:Nat))])]) x.Ents.length (by omega) ?_ ?_
  ·simp only[go_sem,seval]
   exact⟨0,Nat.zero_le _,rfl,rfl⟩
  ·rintro r σ ⟨i,hi,rfl,rfl⟩
   by_cases hlt:i<x.Ents.length
   ·have h1:((i:Int)<(x.Ents.length:Int)):=by omega
    have hy:x.Ents[i]? =some x.Ents[i]:=List.getElem?_eq_getElem hlt
    have hmem:=List.getElem_mem hlt
    have heo:=hx.Ents.1 _ hmem
    generalize x.Ents[i]=e at hy hmem heo
    have htk:x.Ents.take (i+1)=x.Ents.take i++[e]:=by rw[List.take_add_one,hy];rfl
    have hsn:=KRz t.Inodes f (x.Ents.take i) e p
    rw[←htk]at hsn
    have hle:=KQz (l:=t.Inodes) (f:=f) (es:=x.Ents) (p:=p) (i+1)
    rw[hsn,List.length_append,List.length_cons]at hle
    have hdn:=hfl.down (List.mem_map.2 ⟨e,hmem,rfl⟩:e.Ino∈x.Ents.map (·.Ino))
    have hnl:=heo.Name
    obtain⟨⟨⟨nm⟩⟩,ino⟩:=e
    unfold okS at hnl
    simp only[Csz]at hnl
    simp only[Lpz]at hsn hle
    have hq:(p++[47]++nm).length+f*1048577≤100000000:=by simp only[List.length_append,List.length_cons,List.length_nil];omega
    have c1:(((p.length+1:Nat):Int)>IntKind.i64.max)=False:=K3z (by omega)
    have c2:(((p.length+1+nm.length:Nat):Int)>IntKind.i64.max)=False:=K3z (by omega)
    have l1:((AVz t.Inodes (f+1) (x.Ents.take i) p).length+1)*16≤LIM:=by omega
    have hat:=B9z m (by omega) t ht ino
    simp only[go_sem]at hat
    unfold atC at hat
    cases hno:AIz t.Inodes ino with
    |none=>
     have hents:Avz t.Inodes ino=[]:=by unfold Avz;rw[hno]
     have hrec:=ih (by omega) m hm DCz Mjz (by unfold own at hdn;rw[hents]at hdn;exact hdn) (p++[47]++nm) hq
     unfold AIz at hno
     rw[hno]at hat
     simp only[go_sem,B1z]at hat
     simp only[go_sem,TInode.pv,DCz]at hrec
     have l2:((AVz t.Inodes (f+1) (x.Ents.take i) p).length+1+(AVz t.Inodes f [] (p++[47]++nm)).length)*16≤LIM:=by
      rw[hents]at hle;omega
     simp only[go_sem,seval,h1,hy,I5z,Csz,c1,c2,l1,hat,hrec,l2,ACz hlt (by omega)]
     have hst:(AVz t.Inodes (f+1) (x.Ents.take (i+1)) p).map ppv=(AVz t.Inodes (f+1) (x.Ents.take i) p).map ppv++[[.t ⟨⟨p++[47]++nm⟩⟩]]++(AVz t.Inodes f [] (p++[47]++nm)).map ppv:=by
      rw[hsn,hents,List.map_append,List.map_cons];simp only[List.append_assoc,List.cons_append,List.nil_append,ppv]
     refine⟨_,by omega,i+1,hlt,rfl,?_⟩
     rw[hst]
    |some y=>
     have hents:Avz t.Inodes ino=y.Ents:=by unfold Avz;rw[hno]
     have hyo:=ht.Inodes.1 _ (Axz hno).1
     have hrec:=ih (by omega) m hm y hyo (by unfold own at hdn;rw[hents]at hdn;exact hdn) (p++[47]++nm) hq
     unfold AIz at hno
     rw[hno]at hat
     simp only[go_sem,BUz]at hat
     simp only[go_sem,TInode.pv]at hrec
     have l2:((AVz t.Inodes (f+1) (x.Ents.take i) p).length+1+(AVz t.Inodes f y.Ents (p++[47]++nm)).length)*16≤LIM:=by
      rw[hents]at hle;omega
     simp only[go_sem,seval,h1,hy,I5z,Csz,c1,c2,l1,hat,hrec,l2,ACz hlt (by omega)]
     have hst:(AVz t.Inodes (f+1) (x.Ents.take (i+1)) p).map ppv=(AVz t.Inodes (f+1) (x.Ents.take i) p).map ppv++[[.t ⟨⟨p++[47]++nm⟩⟩]]++(AVz t.Inodes f y.Ents (p++[47]++nm)).map ppv:=by
      rw[hsn,hents,List.map_append,List.map_cons];simp only[List.append_assoc,List.cons_append,List.nil_append,ppv]
     refine⟨_,by omega,i+1,hlt,rfl,?_⟩
     rw[hst]
   ·have h1:¬((i:Int)<(x.Ents.length:Int)):=by omega
    obtain rfl:i=x.Ents.length:=by omega
    rw[List.take_length]
    simp only[go_sem,seval,h1]
end Go.Proofs.YtblelojdboefjaaGreatDoor.R
namespace Go.Proofs.YtblelojdboefjaaGreatDoor.R
open Go
set_option maxHeartbeats 4000000 in
theorem Qkz (t:TTab) (ht:t.ok):∀(f:Nat),f≤40→∀(n:Nat),Big+(7+f)≤n→∀(k:Int),Flat' t.Inodes f (own t.Inodes k)→∀(p:List UInt8),p.length+f*1048577≤100000000→∀(out:List (List UInt8)),out.length+(AVz t.Inodes f (Avz t.Inodes k) p).length≤1000000→
  pcall env n 191 [.c .agg (t.pv.map AMz),pvSV (.i .i64 k),pvSV (.t ⟨⟨p⟩⟩),.bp 0 0] [[.ow false 1 (out.map ppv)]]=some ⟨.c (.tup []) [],[[.ow false 1 ((out++AVz t.Inodes f (Avz t.Inodes k) p).map ppv)]]⟩:=by
 intro f
 induction f with
 |zero=>
  intro hf n hn k hfl p hp out hout
  obtain⟨m,rfl⟩:=AEz hn
  have hB:=ASz
  have he:Avz t.Inodes k=[]:=by
   have:=hfl.low
   simpa[lv,own]using this
  have hat:=C5z m (by omega) t ht k
  simp only[go_sem]at hat
  unfold atC at hat
  refine ANz (ADz (fn:=Tryz.f191) rfl rfl rfl (Nat.le_of_ble_eq_true rfl) ?_)
  unfold Tryz.f191
  cases hno:AIz t.Inodes k with
  |none=>
   unfold AIz at hno
   rw[hno]at hat
   simp only[go_sem,B1z]at hat
   simp only[go_sem,seval,hat,AVz]
   refine CEz (by omega) ?_
   simp only[go_sem,seval,AVz]
  |some x=>
   have hxe:x.Ents=[]:=by
    unfold Avz at he
    rw[hno]at he
    exact he
   unfold AIz at hno
   rw[hno]at hat
   simp only[go_sem,BUz,hxe]at hat
   simp only[go_sem,seval,hat,AVz]
   refine CEz (by omega) ?_
   simp only[go_sem,seval,AVz]
 |succ f ih=>
  intro hf n hn k hfl p hp out hout
  obtain⟨m,rfl⟩:=AEz hn
  have hB:=ASz
  have hbd:Bd=1048576:=rfl
  have hlim:LIM=70368744177664:=rfl
  have hm:Big+(7+f)≤m:=by omega
  have hat:=C5z m (by omega) t ht k
  simp only[go_sem]at hat
  unfold atC at hat
  refine ANz (ADz (fn:=Tryz.f191) rfl rfl rfl (Nat.le_of_ble_eq_true rfl) ?_)
  unfold Tryz.f191
  cases hno:AIz t.Inodes k with
  |none=>
   have he:Avz t.Inodes k=[]:=by unfold Avz;rw[hno]
   have hnil:AVz t.Inodes (f+1) [] p=[]:=by simp[AVz]
   rw[he,hnil,List.append_nil]
   unfold AIz at hno
   rw[hno]at hat
   simp only[go_sem,B1z]at hat
   simp only[go_sem,seval,hat]
   refine CEz (by omega) ?_
   simp only[go_sem,seval]
  |some x=>
   have he:Avz t.Inodes k=x.Ents:=by unfold Avz;rw[hno]
   have hxo:=ht.Inodes.1 _ (Axz hno).1
   have hel:=hxo.Ents.2
   unfold own at hfl
   rw[he]at hfl hout ⊢
   have hcn:=hfl.cnt p
   unfold AIz at hno
   rw[hno]at hat
   simp only[go_sem,BUz]at hat
   simp only[go_sem,seval,hat]
   refine AFz (fun r σ=>∃i:Nat,i≤x.Ents.length∧r=x.Ents.length - i∧σ=slots 52 [(2,.c .one [.sh false (.t ⟨⟨p⟩⟩)]),(3,.bp 52 0),(4,.c .box [.sh true (.s 6 (t.Inodes.map TInode.pv)),.sh false (.i .i64 t.Next)]),(8,.c .box [.sh false (.i .i64 x.Ino),.sh false (.i .i64 x.Kind),.sh false (.i .i64 x.Links),.ow false 1 (x.Data.map bpv),.ow false 2 (x.Ents.map TEnt.pv),.ow false 2 (x.Attrs.map TAttr.pv)]),(10,.c .one [.sh false (.i .i64 (i:Nat))])]++[.c .box [.ow false 1 ((out++AVz t.Inodes (f+1) (x.Ents.take i) p).map ppv)]]) x.Ents.length (by omega) ?_ ?_
   ·simp only[go_sem,seval]
    refine⟨0,Nat.zero_le _,rfl,?_⟩
    simp only[List.take_zero,AVz,List.flatMap_nil,List.append_nil]
    rfl
   ·rintro r σ ⟨i,hi,rfl,rfl⟩
    by_cases hlt:i<x.Ents.length
    ·have h1:((i:Int)<(x.Ents.length:Int)):=by omega
     have hy:x.Ents[i]? =some x.Ents[i]:=List.getElem?_eq_getElem hlt
     have hmem:=List.getElem_mem hlt
     have heo:=hxo.Ents.1 _ hmem
     generalize x.Ents[i]=e at hy hmem heo
     have htk:x.Ents.take (i+1)=x.Ents.take i++[e]:=by rw[List.take_add_one,hy];rfl
     have hsn:=KRz t.Inodes f (x.Ents.take i) e p
     rw[←htk]at hsn
     have hle:=KQz (l:=t.Inodes) (f:=f) (es:=x.Ents) (p:=p) (i+1)
     rw[hsn,List.length_append,List.length_cons]at hle
     have hdn:=hfl.down (List.mem_map.2 ⟨e,hmem,rfl⟩:e.Ino∈x.Ents.map (·.Ino))
     have hnl:=heo.Name
     obtain⟨⟨⟨nm⟩⟩,ino⟩:=e
     unfold okS at hnl
     simp only[Csz]at hnl
     simp only[Lpz]at hsn hle
     have hq:(p++[47]++nm).length+f*1048577≤100000000:=by simp only[List.length_append,List.length_cons,List.length_nil];omega
     have c1:(((p.length+1:Nat):Int)>IntKind.i64.max)=False:=K3z (by omega)
     have c2:(((p.length+1+nm.length:Nat):Int)>IntKind.i64.max)=False:=K3z (by omega)
     have l1:(out.length+(AVz t.Inodes (f+1) (x.Ents.take i) p).length+1)*16≤LIM:=by omega
     have hrec:=ih (by omega) m hm ino hdn (p++[47]++nm) hq ((out++AVz t.Inodes (f+1) (x.Ents.take i) p)++[p++[47]++nm]) (by simp only[List.length_append,List.length_cons,List.length_nil]at hle ⊢;omega)
     simp only[go_sem,List.map_append]at hrec
     simp only[go_sem,seval,h1,hy,I5z,Csz,c1,c2,l1,List.map_append,hrec,ACz hlt (by omega)]
     have hst:(AVz t.Inodes (f+1) (x.Ents.take (i+1)) p).map ppv=(AVz t.Inodes (f+1) (x.Ents.take i) p).map ppv++[[.t ⟨⟨p++[47]++nm⟩⟩]]++(AVz t.Inodes f (Avz t.Inodes ino) (p++[47]++nm)).map ppv:=by
      rw[hsn,List.map_append,List.map_cons];simp only[List.append_assoc,List.cons_append,List.nil_append,ppv]
     refine chk (by kernel_rfl) ⟨_,by omega,i+1,hlt,rfl,?_⟩
     rw[hst]
     simp only[List.append_assoc]
    ·have h1:¬((i:Int)<(x.Ents.length:Int)):=by omega
     obtain rfl:i=x.Ents.length:=by omega
     rw[List.take_length]
     simp only[go_sem,seval,h1]
end Go.Proofs.YtblelojdboefjaaGreatDoor.R
namespace Go.Proofs.YtblelojdboefjaaGreatDoor.R
open Go
theorem LTz:∀(x y:List UInt8),Op.bytesLess x y=decide (x<y)
 |[],[]=>by simp[Op.bytesLess]
 |_::_,[]=>by simp[Op.bytesLess]
 |[],_::_=>by simp[Op.bytesLess]
 |a::x,b::y=>by
  rw[Op.bytesLess,LTz x y]
  simp only[List.cons_lt_cons_iff]
  by_cases h1:a<b<;>by_cases h2:a=b<;>by_cases h3:x<y<;>simp[h1,h2,h3]
theorem SIz (x y:List UInt8):(Op.bytesLess x y||x==y)=decide (x≤y):=by
 rw[LTz]
 by_cases h:x<y
 ·have:x≤y:=List.le_of_lt h
  simp[h,this]
 ·by_cases h2:x=y
  ·subst h2;simp[List.le_refl]
  ·have:¬x≤y:=fun h3=>h2 (List.le_antisymm h3 h)
   simp[h,h2,this]
abbrev Ord (l:List (List UInt8)):Prop:=l.Pairwise (fun a b=>a≤b)
theorem T2z {l m:List (List UInt8)} (h1:Ord l) (h2:Ord m) (p:l.Perm m):l=m:=
 List.Perm.eq_of_pairwise (le:=fun a b=>a≤b) (fun a b _ _ h h'=>List.le_antisymm h h') h1 h2 p
theorem MXz (l:List (List UInt8)):Ord (BOz l):=by
 unfold BOz
 have:=HMz (le:=fun(x y:List UInt8)=>decide (x≤y)) (fun a b c h1 h2=>by simp only[decide_eq_true_eq]at h1 h2 ⊢;exact List.le_trans h1 h2) (fun a b=>by simpa using List.le_total a b) l
 exact this.imp fun h=>by simpa using h
theorem Dpz (l:List (List UInt8)):(BOz l).Perm l:=DSz _ l
theorem Hrz (l:List (List UInt8)):(BOz l).length=l.length:=(Dpz l).length_eq
theorem T1z {l m:List (List UInt8)} (h1:Ord m) (p:m.Perm l):m=BOz l:=
 T2z h1 (MXz l) (p.trans (Dpz l).symm)
theorem NMz {S:List (List UInt8)} (h:Ord S) {k:Nat} {x:List UInt8} (hk:k≤S.length) (hd:∀y∈S.drop k,x≤y) (ht:∀j a,k=j+1→S[j]? =some a→a≤x):Ord (A3z S k x):=by
 unfold A3z Ord
 have hsp:Ord (S.take k++S.drop k):=by rw[List.take_append_drop];exact h
 rw[Ord,List.pairwise_append]at hsp
 have hbelow:∀a∈S.take k,a≤x:=fun a ha=>by
  cases k with
  |zero=>simp at ha
  |succ j=>
   have hj:S[j]? =some S[j]:=List.getElem?_eq_getElem (by omega)
   have hlast:=ht j _ rfl hj
   rw[List.take_add_one,hj]at ha hsp
   rcases List.mem_append.1 ha with h1|h1
   ·have:=(List.pairwise_append.1 hsp.1).2.2 a h1 S[j] (by simp)
    exact List.le_trans this hlast
   ·have:a=S[j]:=by simpa using h1
    rw[this];exact hlast
 rw[List.pairwise_append]
 refine⟨hsp.1,List.pairwise_cons.2 ⟨hd,hsp.2.1⟩,fun a ha b hb=> ?_⟩
 rcases List.mem_cons.1 hb with rfl|hb
 ·exact hbelow a ha
 ·exact hsp.2.2 a ha b hb
theorem Lrz:∀l:List (List UInt8),texts? (l.map ppv)=some l
 |[]=>rfl
 |p::l=>by simp[texts?,ppv,Lrz l]
theorem Paz {l:List (List UInt8)} {j:Nat} {a:List UInt8}:(l.map ppv).set j [.t ⟨⟨a⟩⟩]=(l.set j a).map ppv:=by
 rw[List.map_set];rfl
end Go.Proofs.YtblelojdboefjaaGreatDoor.R
namespace Go.Proofs.YtblelojdboefjaaGreatDoor.R
open Go
theorem Nfz {α:Type} {a b:List α} {j:Nat} (h:j<a.length):(a++b)[j]? =a[j]? :=List.getElem?_append_left h
theorem MAz {α:Type} {a b:List α} {j:Nat} {x:α} (h:j<a.length):(a++b).set j x=a.set j x++b:=List.set_append_left _ _ h
set_option maxHeartbeats 8000000 in
theorem MDz (n:Nat) (hn:Big+1≤n) (l:List (List UInt8)) (hl:l.length≤1000000):pcall env n 192 [.c .one [.sh true (.s 1 (l.map ppv))]] []=some ⟨.c .one [.ow false 1 ((BOz l).map ppv)],[]⟩:=by
 obtain⟨m,rfl⟩:=AEz hn
 have hB:=ASz
 have hbd:Bd=1048576:=rfl
 have hlim:LIM=70368744177664:=rfl
 have l1:l.length*16≤LIM:=by omega
 refine ANz (ADz (fn:=Tryz.f192) rfl rfl rfl (Nat.le_of_ble_eq_true rfl) ?_)
 unfold Tryz.f192
 cases hlz:l with
 |nil=>
  simp only[go_sem,Nat.reduceLT,Nat.reduceAdd,Nat.reduceSub,Nat.reduceEqDiff,Nat.reduceLeDiff,Int.reduceEq,Int.reduceBEq,Int.reduceBNe,Int.reduceNeg,UInt8.reduceToNat,Nat.reduceBEq]
  have l0:0≤LIM:=Nat.zero_le _
  simp only[go_sem,Nat.reduceLT,Nat.reduceAdd,Nat.reduceSub,Nat.reduceEqDiff,Nat.reduceLeDiff,Int.reduceEq,Int.reduceBEq,Int.reduceBNe,Int.reduceNeg,UInt8.reduceToNat,Nat.reduceBEq,l0,Nat.zero_mul]
  refine CEz (by omega) ?_
  simp only[go_sem,Nat.reduceLT,Nat.reduceAdd,Nat.reduceSub,Nat.reduceEqDiff,Nat.reduceLeDiff,Int.reduceEq,Int.reduceBEq,Int.reduceBNe,Int.reduceNeg,UInt8.reduceToNat,Nat.reduceBEq]
  refine EDz (by decide) ?_
  simp only[go_sem,Nat.reduceLT,Nat.reduceAdd,Nat.reduceSub,Nat.reduceEqDiff,Nat.reduceLeDiff,Int.reduceEq,Int.reduceBEq,Int.reduceBNe,Int.reduceNeg,UInt8.reduceToNat,Nat.reduceBEq]
  rw[show BOz []=[]from rfl]
  rfl
 |cons l0 ls=>
 rw[←hlz]
 have hpos:0<l.length:=by rw[hlz];simp
 simp only[go_sem,Nat.reduceLT,Nat.reduceAdd,Nat.reduceSub,Nat.reduceEqDiff,Nat.reduceLeDiff,Int.reduceEq,Int.reduceBEq,Int.reduceBNe,Int.reduceNeg,UInt8.reduceToNat,Nat.reduceBEq,l1]
 refine AFz (fun r σ=>∃(i:Nat) (S O:List (List UInt8)),i≤l.length∧0<i∧r=l.length - i∧Ord S∧S.Perm (l.take i)∧O=S++l.drop i∧σ=slots 47 [(3,.c .one [.ow false 1 (O.map ppv)]),(4,.c .one [.sh false (.i .i64 (i:Nat))])]) (l.length - 1) (by omega) ?_ ?_
 ·simp only[go_sem,Nat.reduceLT,Nat.reduceAdd,Nat.reduceSub,Nat.reduceEqDiff,Nat.reduceLeDiff,Int.reduceEq,Int.reduceBEq,Int.reduceBNe,Int.reduceNeg,UInt8.reduceToNat,Nat.reduceBEq]
  refine⟨1,l.take 1,l,hpos,Nat.one_pos,rfl,?_,.refl _,(List.take_append_drop 1 l).symm,rfl⟩
  rw[hlz];simp[Ord]
 ·rintro r σ ⟨i,S,O,hi,hi0,rfl,hS,hP,hO,rfl⟩
  have hSl:S.length=i:=by rw[hP.length_eq,List.length_take];omega
  have hOl:O.length=l.length:=by rw[hO,List.length_append,List.length_drop,hSl];omega
  by_cases hlt:i<l.length
  ·have h1:((i:Int)<(l.length:Int)):=by omega
   have hx:l[i]? =some l[i]:=List.getElem?_eq_getElem hlt
   generalize l[i]=x at hx
   have hOx:O[i]? =some x:=by
    rw[hO,List.getElem?_append_right (by omega),hSl,Nat.sub_self,List.getElem?_drop,Nat.add_zero,hx]
   have hO2:O=A3z S i x++l.drop (i+1):=by rw[hO,←hSl,Ntz,hSl,EZz hx,List.append_assoc];rfl
   simp only[go_sem,Nat.reduceLT,Nat.reduceAdd,Nat.reduceSub,Nat.reduceEqDiff,Nat.reduceLeDiff,Int.reduceEq,Int.reduceBEq,Int.reduceBNe,Int.reduceNeg,UInt8.reduceToNat,Nat.reduceBEq,hOl,h1,hOx,ppv]
   refine AFz (fun r σ=>∃(k:Nat) (z:List UInt8) (O:List (List UInt8)),k≤S.length∧r=k+1∧(∀y∈S.drop k,x≤y)∧O=A3z S k z++l.drop (i+1)∧σ=slots 47 [(3,.c .one [.ow false 1 (O.map ppv)]),(4,.c .one [.sh false (.i .i64 (i:Nat))]),(5,.c .one [.sh false (.t ⟨⟨x⟩⟩)]),(6,.c .one [.sh false (.i .i64 (k:Nat))])]) (S.length+1) (by omega) ?_ ?_
   ·simp only[go_sem,Nat.reduceLT,Nat.reduceAdd,Nat.reduceSub,Nat.reduceEqDiff,Nat.reduceLeDiff,Int.reduceEq,Int.reduceBEq,Int.reduceBNe,Int.reduceNeg,UInt8.reduceToNat,Nat.reduceBEq]
    exact⟨i,x,O,by omega,by omega,fun y hy=>by rw[←hSl,List.drop_length]at hy;simp at hy,hO2,rfl⟩
   ·rintro r σ ⟨k,z,O,hk,rfl,hd,hO,rfl⟩
    have hat:O[k]? =some z:=by rw[hO,Nfz (by rw[Hiz hk];omega),Ppz hk]
    have hst:(O.map ppv).set k [.t ⟨⟨x⟩⟩]=(A3z S k x++l.drop (i+1)).map ppv:=by rw[Paz,hO,MAz (by rw[Hiz hk];omega),Hhz hk]
    have done:Ord (A3z S k x)→∃k',k'<l.length - i∧∃(i':Nat) (S' O':List (List UInt8)),i'≤l.length∧0<i'∧k'=l.length - i'∧Ord S'∧S'.Perm (l.take i')∧O'=S'++l.drop i'∧slots 47 [(3,.c .one [.ow false 1 ((A3z S k x++l.drop (i+1)).map ppv)]),(4,.c .one [.sh false (.i .i64 ((i+1:Nat)))])]=slots 47 [(3,.c .one [.ow false 1 (O'.map ppv)]),(4,.c .one [.sh false (.i .i64 (i':Nat))])]:=fun h=>
     ⟨_,by omega,i+1,A3z S k x,_,hlt,by omega,rfl,h,by
      rw[List.take_add_one,hx]
      exact(MJz S k x).trans (hP.append_right _),rfl,rfl⟩
    cases k with
    |zero=>
     have hfin:=done (NMz hS hk hd fun j a hj=>by omega)
     simp only[go_sem,Nat.reduceLT,Nat.reduceAdd,Nat.reduceSub,Nat.reduceEqDiff,Nat.reduceLeDiff,Int.reduceEq,Int.reduceBEq,Int.reduceBNe,Int.reduceNeg,UInt8.reduceToNat,Nat.reduceBEq]at hfin
     simp only[go_sem,Nat.reduceLT,Nat.reduceAdd,Nat.reduceSub,Nat.reduceEqDiff,Nat.reduceLeDiff,Int.reduceEq,Int.reduceBEq,Int.reduceBNe,Int.reduceNeg,UInt8.reduceToNat,Nat.reduceBEq,hat,hst,ACz hlt (by omega)]
     exact hfin
    |succ j=>
     have hy:S[j]? =some S[j]:=List.getElem?_eq_getElem (by omega)
     generalize S[j]=a at hy
     have hgt:((j+1:Nat):Int)>0:=by omega
     have w2:IntKind.i64.wrap (((j+1:Nat):Int) - 1)=(j:Nat):=by rw[ARz (by omega) (by omega)];omega
     have hg:O[j]? =some a:=by rw[hO,Nfz (by rw[Hiz hk];omega),Nsz (by omega),hy]
     have hst2:(O.map ppv).set (j+1) [.t ⟨⟨a⟩⟩]=(A3z S j a++l.drop (i+1)).map ppv:=by rw[Paz,hO,MAz (by rw[Hiz hk];omega),Hhz hk,MKz hy]
     cases hc:(Op.bytesLess a x||a==x)with
     |true=>
      have hle:a≤x:=by rw[SIz]at hc;simpa using hc
      have hfin:=done (NMz hS hk hd fun j' a' hj ha=>by
       have:j'=j:=by omega
       subst this
       rw[hy]at ha;injection ha with ha;subst ha;exact hle)
      simp only[go_sem,Nat.reduceLT,Nat.reduceAdd,Nat.reduceSub,Nat.reduceEqDiff,Nat.reduceLeDiff,Int.reduceEq,Int.reduceBEq,Int.reduceBNe,Int.reduceNeg,UInt8.reduceToNat,Nat.reduceBEq]at hfin
      simp only[go_sem,Nat.reduceLT,Nat.reduceAdd,Nat.reduceSub,Nat.reduceEqDiff,Nat.reduceLeDiff,Int.reduceEq,Int.reduceBEq,Int.reduceBNe,Int.reduceNeg,UInt8.reduceToNat,Nat.reduceBEq,hgt,w2,hg,hc,hat,hst,ppv,ACz hlt (by omega)]
      exact hfin
     |false=>
      have hle:x≤a:=by
       rw[SIz]at hc
       have:¬a≤x:=by simpa using hc
       exact(List.le_total x a).resolve_right this
      simp only[go_sem,Nat.reduceLT,Nat.reduceAdd,Nat.reduceSub,Nat.reduceEqDiff,Nat.reduceLeDiff,Int.reduceEq,Int.reduceBEq,Int.reduceBNe,Int.reduceNeg,UInt8.reduceToNat,Nat.reduceBEq,hgt,w2,hg,hc,hat,hst2,ppv]
      refine⟨_,Nat.lt_succ_self _,j,a,_,by omega,rfl,fun y hy2=> ?_,rfl,rfl⟩
      rw[EZz hy]at hy2
      rcases List.mem_cons.1 hy2 with rfl|h
      ·exact hle
      ·exact hd y h
  ·have h1:¬((i:Int)<(l.length:Int)):=by omega
   obtain rfl:i=l.length:=by omega
   rw[List.take_length]at hP
   rw[List.drop_length,List.append_nil]at hO
   subst hO
   rw[←T1z hS hP]
   simp only[go_sem,Nat.reduceLT,Nat.reduceAdd,Nat.reduceSub,Nat.reduceEqDiff,Nat.reduceLeDiff,Int.reduceEq,Int.reduceBEq,Int.reduceBNe,Int.reduceNeg,UInt8.reduceToNat,Nat.reduceBEq,hOl,h1]
end Go.Proofs.YtblelojdboefjaaGreatDoor.R
namespace Go.Proofs.YtblelojdboefjaaGreatDoor.R
open Go
noncomputable def BIz (t:TTab):List (List UInt8):=match AXz t with
 |true=>BOz (AVz t.Inodes 30 (Avz t.Inodes 1) [])
 |false=>[]
theorem Idz {t:TTab} (h:AXz t=true):Flat' t.Inodes 30 (own t.Inodes 1):=⟨(PRz h).low,(PRz h).wide 1⟩
theorem IRz {t:TTab} (h:AXz t=true):(AVz t.Inodes 30 (Avz t.Inodes 1) []).length≤9000:=(Idz h).cnt (es:=Avz t.Inodes 1) []
theorem GRz {t:TTab} (h:AXz t=true):∃r∈t.Inodes,AIz t.Inodes 1=some r:=by
 have h0:=(Bnz h).1
 unfold tabI Fez at h0
 simp only[Bool.and_eq_true]at h0
 have h3:=h0.2
 cases hr:t.Inodes.find? (fun x=>x.Ino==1)with
 |none=>rw[hr]at h3;simp at h3
 |some r=>exact⟨r,(Axz (l:=t.Inodes) (k:=1) hr).1,hr⟩
theorem SFz (l:List (List UInt8)):(l.map fun x=>[PV.t ⟨x.toArray⟩])=l.map ppv:=rfl
set_option maxHeartbeats 4000000 in
theorem NGz (n:Nat) (hn:Big+40≤n) (t:TTab) (ht:t.ok):pcall env n 121 [.c .agg (t.pv.map AMz)] []=some ⟨.c .one [.ow false 1 ((BIz t).map ppv)],[]⟩:=by
 obtain⟨m,rfl⟩:=AEz hn
 have htr:=FAz m (by omega) t ht
 simp only[go_sem]at htr
 refine ANz (ADz (fn:=Tryz.f121) rfl rfl rfl (Nat.le_of_ble_eq_true rfl) ?_)
 unfold Tryz.f121
 unfold BIz
 cases htb:AXz t with
 |false=>
  simp only[go_sem,seval,htr,htb]
 |true=>
  obtain⟨r,hrm,hno⟩:=GRz htb
  have hents:Avz t.Inodes 1=r.Ents:=by unfold Avz;rw[hno]
  have hat:=B9z m (by omega) t ht 1
  have hfl:=Idz htb
  have hfw:=IRz htb
  unfold own at hfl
  rw[hents]at hfl hfw ⊢
  have hbl:=Ulz t ht 30 (by decide) m (by omega) r (ht.Inodes.1 _ hrm) hfl [] (by simp)
  simp only[go_sem,TInode.pv]at hat hbl
  unfold atC at hat
  unfold AIz at hno
  rw[hno]at hat
  simp only[go_sem,BUz]at hat
  generalize AVz t.Inodes 30 r.Ents []=L at hbl hfw ⊢
  by_cases hz:L.length=0
  ·have hL:L=[]:=List.length_eq_zero_iff.1 hz
   subst hL
   simp only[go_sem,seval,htr,htb,hat,hbl,sortTextOrc,show texts? []=some []from rfl]
   rw[show BOz []=[]from rfl]
   rfl
  ·simp only[go_sem,seval,htr,htb,hat,hbl,sortTextOrc,Lrz]
   refine BNz (by omega) ?_
   simp only[go_sem,seval,hz,Hrz,SFz]
set_option maxHeartbeats 4000000 in
theorem NFz (n:Nat) (hn:Big+40≤n) (t:TTab) (ht:t.ok):pcall env n 110 [.c .agg (t.pv.map AMz)] []=some ⟨.c .one [.ow false 1 ((BIz t).map ppv)],[]⟩:=by
 obtain⟨m,rfl⟩:=AEz hn
 have htr:=E9z m (by omega) t ht
 simp only[go_sem]at htr
 refine ANz (ADz (fn:=Tryz.f110) rfl rfl rfl (Nat.le_of_ble_eq_true rfl) ?_)
 unfold Tryz.f110
 unfold BIz
 cases htb:AXz t with
 |false=>
  have hso:=MDz m (by omega) [] (by simp)
  rw[show BOz []=[]from rfl]at hso
  simp only[go_sem]at hso
  simp only[go_sem,seval,htr,htb,hso]
 |true=>
  have hfl:=Idz htb
  have hfw:=IRz htb
  have hbl:=Qkz t ht 30 (by decide) m (by omega) 1 hfl [] (by simp) [] (by simp only[List.length_nil];omega)
  have hso:=MDz m (by omega) (AVz t.Inodes 30 (Avz t.Inodes 1) []) (by omega)
  simp only[go_sem]at hbl hso
  simp only[go_sem,seval,htr,htb,hbl,hso]
end Go.Proofs.YtblelojdboefjaaGreatDoor.R
namespace Go.Proofs.YtblelojdboefjaaGreatDoor.R
open Go
def stI (l:List TInode) (p:List UInt8):TInode:=match(Amz l p).2==0 with
 |false=>DCz
 |true=>match AIz l (Amz l p).1 with
  |none=>DCz
  |some x=>x
def BMz (l:List TInode) (ps:List (List UInt8)) (k:Int):List UInt8:=match ps.find? (fun q=>(Amz l q).1==k)with
 |some q=>q
 |none=>[]
def Azz (l:List TInode) (ps:List (List UInt8)) (p:List UInt8):TEntry:=⟨⟨⟨p⟩⟩,(stI l p).Kind,(stI l p).Data,(stI l p).Attrs,⟨⟨BMz l ps (stI l p).Ino⟩⟩⟩
noncomputable def Anz (t:TTab):List TEntry:=(BIz t).map (Azz t.Inodes (BIz t))
theorem J7z (l:List TInode):∀(ns:List (List UInt8)) (k:Int),(BFz l ns k).2≠0→(BFz l ns k).1=0
 |[],k,h=>absurd rfl h
 |nm::ns,k,h=>by
  simp only[BFz]at h ⊢
  split
  ·rfl
  ·rename_i x hx
   rw[hx]at h
   simp only at h
   split
   ·rfl
   ·rename_i hk
    rw[hk]at h
    simp only at h
    split
    ·rfl
    ·rename_i he
     rw[he]at h
     exact J7z l ns _ h
theorem Kwz {t:TTab} (h:AXz t=true) {x:TInode} (hx:x∈t.Inodes) {nm:List UInt8} (he:(entI x.Ents nm==0)=false):(AIz t.Inodes (entI x.Ents nm)).isSome=true:=by
 unfold entI at he ⊢
 cases hf:x.Ents.find? (fun e=>e.Name.toList==nm)with
 |none=>rw[hf]at he;simp at he
 |some e=>
  have hm:=List.mem_of_find?_eq_some hf
  obtain⟨i,hi⟩:=List.getElem?_of_mem hm
  have:=((Bnz h).2 x hx).2.2
  unfold FTz at this
  have:=DLz this (List.getElem?_eq_some_iff.1 hi).1
  rw[hi]at this
  exact this
theorem H4z {t:TTab} (h:AXz t=true):∀(ns:List (List UInt8)) (k:Int),(AIz t.Inodes k).isSome=true→(BFz t.Inodes ns k).2=0→(AIz t.Inodes (BFz t.Inodes ns k).1).isSome=true
 |[],k,hk,_=>hk
 |nm::ns,k,hk,hc=>by
  obtain⟨x,hx⟩:=Option.isSome_iff_exists.1 hk
  obtain⟨hm,_⟩:=Axz hx
  simp only[BFz,hx]at hc ⊢
  cases hkd:(x.Kind==2)with
  |false=>rw[hkd]at hc;simp at hc
  |true=>
   rw[hkd]at hc
   simp only at hc ⊢
   cases he:(entI x.Ents nm==0)with
   |true=>rw[he]at hc;simp at hc
   |false=>
    rw[he]at hc
    simp only at hc ⊢
    exact H4z h ns _ (Kwz h hm he) hc
theorem Rnz {t:TTab} (h:AXz t=true) (p:List UInt8):(stI t.Inodes p).Ino=(Amz t.Inodes p).1:=by
 unfold stI
 cases hc:((Amz t.Inodes p).2==0)with
 |false=>
  have hne:(Amz t.Inodes p).2≠0:=by simpa using hc
  show DCz.Ino=_
  unfold Amz at hne ⊢
  cases hp:BJz p with
  |none=>rfl
  |some ns=>
   rw[hp]at hne
   exact(J7z _ _ _ hne).symm
 |true=>
  have he:(Amz t.Inodes p).2=0:=by simpa using hc
  have hp:(AIz t.Inodes (Amz t.Inodes p).1).isSome=true:=by
   unfold Amz at he ⊢
   cases hp:BJz p with
   |none=>rw[hp]at he;exact absurd he (by simp)
   |some ns=>
    rw[hp]at he
    obtain⟨r,_,hr⟩:=GRz h
    exact H4z h ns 1 (by rw[hr];rfl) he
  obtain⟨x,hx⟩:=Option.isSome_iff_exists.1 hp
  simp only[hx]
  exact(Axz hx).2
theorem Wuz {l:List TInode} (p:List UInt8):stI l p=DCz∨stI l p∈l:=by
 unfold stI
 split
 ·exact .inl rfl
 ·split
  ·exact .inl rfl
  ·rename_i x hx;exact .inr (Axz hx).1
theorem Pfz {t:TTab} (h:AXz t=true) {x:TInode} (hx:x∈t.Inodes) {e:TEnt} (he:e∈x.Ents):e.Name.toList.length≤14:=by
 have h1:=((Bnz h).2 x hx).1
 unfold Auz at h1
 simp only[Bool.and_eq_true]at h1
 have h2:=h1.1.1.2
 unfold CLz at h2
 simp only[Bool.and_eq_true]at h2
 obtain⟨i,hi⟩:=List.getElem?_of_mem he
 have h3:=DLz h2.1 (List.getElem?_eq_some_iff.1 hi).1
 unfold B2z FUz at h3
 rw[hi]at h3
 simp only[Bool.and_eq_true]at h3
 have h4:=h3.1.1
 unfold BYz BAz Fsz at h4
 simp only[Bool.and_eq_true,decide_eq_true_eq]at h4
 rw[ByteArray.toList_eq]
 exact h4.2.1.1.2
theorem KSz {t:TTab} (h:AXz t=true):∀(f:Nat) (es:List TEnt) (p q:List UInt8),(∀e∈es,e.Name.toList.length≤14)→q∈AVz t.Inodes f es p→q.length≤p.length+f*15
 |0,es,p,q,_,hq=>by simp[AVz]at hq
 |f+1,es,p,q,he,hq=>by
  simp only[AVz]at hq
  obtain⟨e,hem,hq⟩:=List.mem_flatMap.1 hq
  have h1:=he e hem
  have hl:(p++[47]++e.Name.toList).length≤p.length+15:=by simp only[List.length_append,List.length_cons,List.length_nil];omega
  rcases List.mem_cons.1 hq with rfl|hq
  ·omega
  ·have:=KSz h f (Avz t.Inodes e.Ino) _ q (fun e' he'=>by
    unfold Avz at he'
    cases hx:AIz t.Inodes e.Ino with
    |none=>rw[hx]at he';simp at he'
    |some x=>rw[hx]at he';exact Pfz h (Axz hx).1 he') hq
   omega
theorem GYz {t:TTab} {q:List UInt8} (hq:q∈BIz t):q.length≤450:=by
 unfold BIz at hq
 cases h:AXz t with
 |false=>rw[h]at hq;simp at hq
 |true=>
  rw[h]at hq
  have hq2:=(Dpz _).mem_iff.1 hq
  obtain⟨r,hr,hno⟩:=GRz h
  have:=KSz h 30 (Avz t.Inodes 1) [] q (fun e he=>by
   unfold Avz at he
   rw[hno]at he
   exact Pfz h hr he) hq2
  simpa using this
theorem HRz (t:TTab):(BIz t).length≤9000:=by
 unfold BIz
 cases h:AXz t with
 |false=>simp
 |true=>
  simp only[Hrz]
  exact IRz h
theorem Slz {l:List TInode} {ps:List (List UInt8)} {k:Int}:BMz l ps k=[]∨BMz l ps k∈ps:=by
 unfold BMz
 split
 ·rename_i q hq;exact .inr (List.mem_of_find?_eq_some hq)
 ·exact .inl rfl
theorem Qyz {t:TTab} {k:Int}:(BMz t.Inodes (BIz t) k).length≤450:=by
 rcases Slz (l:=t.Inodes) (ps:=BIz t) (k:=k)with h|h
 ·rw[h];simp
 ·exact GYz h
theorem Yiz {t:TTab} (ht:t.ok) (p:List UInt8):(stI t.Inodes p).ok:=by
 rcases Wuz (l:=t.Inodes) p with h|h
 ·rw[h];exact Mjz
 ·exact ht.Inodes.1 _ h
theorem UXz {t:TTab} (ht:t.ok) {p:List UInt8} (hp:p∈BIz t):(Azz t.Inodes (BIz t) p).ok:=by
 have h1:=Yiz ht p
 have h2:=GYz hp
 have h3:=Qyz (t:=t) (k:=(stI t.Inodes p).Ino)
 have hb:Bd=1048576:=rfl
 exact⟨by unfold okS Azz;simp only[Csz];omega,h1.Kind,h1.Data,h1.Attrs,by unfold okS Azz;simp only[Csz];omega⟩
theorem N2z {t:TTab} (h:AXz t=true) {ps:List (List UInt8)} {i:Nat} {p:List UInt8} (hp:ps[i]? =some p) (hn:∀(j:Nat) (q:List UInt8),j<i→ps[j]? =some q→((Amz t.Inodes q).1==(stI t.Inodes p).Ino)=false):BMz t.Inodes ps (stI t.Inodes p).Ino=p:=by
 have:ps.find? (fun q=>(Amz t.Inodes q).1==(stI t.Inodes p).Ino)=some p:=by
  rw[List.find?_eq_some_iff_getElem]
  obtain⟨hi,hpi⟩:=List.getElem?_eq_some_iff.1 hp
  refine⟨by rw[Rnz h];simp,i,hi,hpi,fun j hj=>by simpa using hn j _ hj (List.getElem?_eq_getElem (by omega))⟩
 unfold BMz;rw[this]
theorem Knz {t:TTab} (h:AXz t=true) {ps:List (List UInt8)} {p q:List UInt8} (hq:((Amz t.Inodes q).1==(stI t.Inodes p).Ino)=true):BMz t.Inodes ps (stI t.Inodes q).Ino=BMz t.Inodes ps (stI t.Inodes p).Ino:=by
 have:(stI t.Inodes q).Ino=(stI t.Inodes p).Ino:=by rw[Rnz h q];simpa using hq
 rw[this]
theorem LHz {t:TTab} {p:List UInt8} (hp:p∈BIz t):AXz t=true:=by
 cases h:AXz t with
 |true=>rfl
 |false=>unfold BIz at hp;rw[h]at hp;simp at hp
end Go.Proofs.YtblelojdboefjaaGreatDoor.R
namespace Go.Proofs.YtblelojdboefjaaGreatDoor.R
open Go
theorem PAz {l:List TInode} {ps:List (List UInt8)} {k:Int} (h:∀(i:Nat) (q:List UInt8),i<ps.length→ps[i]? =some q→((Amz l q).1==k)=false):BMz l ps k=[]:=by
 have:ps.find? (fun q=>(Amz l q).1==k)=none:=by
  rw[List.find?_eq_none]
  intro q hq
  obtain⟨i,hi⟩:=List.getElem?_of_mem hq
  simpa using h i q (List.getElem?_eq_some_iff.1 hi).1 hi
 unfold BMz;rw[this]
theorem O9z {l:List TInode} {ps:List (List UInt8)} {k:Int} {j:Nat} {p:List UInt8} (hp:ps[j]? =some p) (hk:((Amz l p).1==k)=true) (h:∀(i:Nat) (q:List UInt8),i<j→ps[i]? =some q→((Amz l q).1==k)=false):BMz l ps k=p:=by
 have:ps.find? (fun q=>(Amz l q).1==k)=some p:=by
  rw[List.find?_eq_some_iff_getElem]
  obtain⟨hi,hpi⟩:=List.getElem?_eq_some_iff.1 hp
  exact⟨hk,j,hi,hpi,fun i hij=>by simpa using h i _ hij (List.getElem?_eq_getElem (by omega))⟩
 unfold BMz;rw[this]
set_option maxHeartbeats 4000000 in
theorem O4z (n:Nat) (hn:Big+6≤n) (t:TTab) (ht:t.ok) (ps:List (List UInt8)) (hps:ps.length≤9000) (hp:∀q∈ps,q.length≤450) (k:Int):pcall env n 112 [.c .agg (t.pv.map AMz),.c .one [.sh true (.s 1 (ps.map ppv))],pvSV (.i .i64 k)] []=some ⟨pvSV (.t ⟨⟨BMz t.Inodes ps k⟩⟩),[]⟩:=by
 obtain⟨m,rfl⟩:=AEz hn
 have hB:=ASz
 have hbd:Bd=1048576:=rfl
 refine ANz (ADz (fn:=Tryz.f112) rfl rfl rfl (Nat.le_of_ble_eq_true rfl) ?_)
 unfold Tryz.f112
 simp only[go_sem,seval]
 refine AFz (fun r σ=>∃j:Nat,j≤ps.length∧r=ps.length - j∧(∀(i:Nat) (q:List UInt8),i<j→ps[i]? =some q→((Amz t.Inodes q).1==k)=false)∧σ=slots 32 [(1,.c .one [.sh true (.s 1 (ps.map ppv))]),(2,.c .one [.sh false (.i .i64 k)]),(3,.c .box [.sh true (.s 6 (t.Inodes.map TInode.pv)),.sh false (.i .i64 t.Next)]),(7,.c .one [.sh false (.i .i64 (j:Nat))])]) ps.length (by omega) ?_ ?_
 ·simp only[go_sem,seval]
  exact⟨0,Nat.zero_le _,rfl,fun i y hi=>absurd hi (Nat.not_lt_zero _),rfl⟩
 ·rintro r σ ⟨j,hj,rfl,hpr,rfl⟩
  by_cases hlt:j<ps.length
  ·have h1:((j:Int)<(ps.length:Int)):=by omega
   have hx:ps[j]? =some ps[j]:=List.getElem?_eq_getElem hlt
   have hq:=hp _ (List.getElem_mem hlt)
   generalize ps[j]=q at hx hq
   have hw:=I9z m (deep hn (by decide)) t ht q (by omega)
   simp only[go_sem,tup2]at hw
   cases ha:((Amz t.Inodes q).1==k)with
   |true=>
    rw[O9z hx ha hpr]
    simp only[go_sem,seval,h1,hx,hw,ha]
    exact chk1 (by kernel_rfl)
   |false=>
    simp only[go_sem,seval,h1,hx,hw,ha,ACz hlt (by omega)]
    refine chk (by kernel_rfl) ⟨_,by omega,j+1,hlt,rfl,fun i y hi hy=> ?_,by with_reducible rfl⟩
    rcases Nat.lt_succ_iff_lt_or_eq.1 hi with h|h
    ·exact hpr i y h hy
    ·subst h;rw[hx]at hy;injection hy with hy;subst hy;exact ha
  ·have h1:¬((j:Int)<(ps.length:Int)):=by omega
   obtain rfl:j=ps.length:=by omega
   rw[PAz hpr]
   simp only[go_sem,seval,h1]
theorem KDz (l:List TInode) (p:List UInt8):(∃c:Int,HJz l p=B1z++[.sh false (.i .i64 c)]∧stI l p=DCz)∨∃x,x=stI l p∧HJz l p=BUz x++[.sh false (.i .i64 0)]:=by
 unfold HJz stI
 cases hc:((Amz l p).2==0)with
 |false=>exact .inl ⟨_,rfl,rfl⟩
 |true=>
  cases hf:AIz l (Amz l p).1 with
  |none=>exact .inl ⟨_,rfl,rfl⟩
  |some x=>exact .inr ⟨x,rfl,rfl⟩
theorem Suz {l:List TInode} {ps:List (List UInt8)} {i:Nat} {p:List UInt8} (h:ps[i]? =some p):((ps.take (i+1)).map (Azz l ps)).map TEntry.pv=((ps.take i).map (Azz l ps)).map TEntry.pv++[(Azz l ps p).pv]:=by
 rw[List.take_add_one,h];simp
set_option maxHeartbeats 8000000 in
theorem JVz (n:Nat) (hn:Big+41≤n) (t:TTab) (ht:t.ok):pcall env n 40 [.c .agg (t.pv.map AMz)] []=some ⟨.c .one [.ow false 5 ((Anz t).map TEntry.pv)],[]⟩:=by
 obtain⟨m,rfl⟩:=AEz hn
 have hB:=ASz
 have hbd:Bd=1048576:=rfl
 have hlim:LIM=70368744177664:=rfl
 have hpt:=NFz m (by omega) t ht
 simp only[go_sem]at hpt
 have hlen:=HRz t
 have hsz:=fun q (hq:q∈BIz t)=>GYz hq
 unfold Anz
 generalize BIz t=ps at hpt hlen hsz ⊢
 refine ANz (ADz (fn:=Tryz.f40) rfl rfl rfl (Nat.le_of_ble_eq_true rfl) ?_)
 unfold Tryz.f40
 simp only[go_sem,seval,hpt,Nat.zero_mul,Nat.zero_le]
 refine AFz (fun r σ=>∃(i:Nat),i≤ps.length∧r=ps.length - i∧σ=slots 46 [(1,.c .box [.sh true (.s 6 (t.Inodes.map TInode.pv)),.sh false (.i .i64 t.Next)]),(3,.c .one [.ow false 5 (((ps.take i).map (Azz t.Inodes ps)).map TEntry.pv)]),(4,.c .one [.ow false 1 (ps.map ppv)]),(5,.c .one [.sh false (.i .i64 (i:Nat))])]) ps.length (by omega) ?_ ?_
 ·simp only[go_sem,seval]
  exact⟨0,Nat.zero_le _,rfl,rfl⟩
 ·rintro r σ ⟨i,hi,rfl,rfl⟩
  by_cases hlt:i<ps.length
  ·have h1:((i:Int)<(ps.length:Int)):=by omega
   have hx:ps[i]? =some ps[i]:=List.getElem?_eq_getElem hlt
   have hq:=hsz _ (List.getElem_mem hlt)
   generalize ps[i]=p at hx hq
   have hst:=Osz m (by omega) t ht p (by omega)
   have hfi:=O4z m (by omega) t ht ps hlen hsz (stI t.Inodes p).Ino
   simp only[go_sem]at hst hfi
   have hds:=Suz (l:=t.Inodes) hx
   have l1:((ps.take i).length+1)*88≤LIM:=by rw[List.length_take];omega
   rcases KDz t.Inodes p with⟨c,hs1,hs2⟩|⟨x,hs2,hs1⟩
   ·rw[hs1]at hst
    rw[hs2]at hfi
    simp only[go_sem,B1z,DCz]at hst hfi
    simp only[go_sem,seval,h1,hx,hst]
    refine chk (by kernel_rfl) ?_
    simp only[go_sem,seval,hx,hfi,l1]
    have he:(Azz t.Inodes ps p).pv=[.t ⟨⟨p⟩⟩,.i .i64 0,.s 1 [],.s 2 [],.t ⟨⟨BMz t.Inodes ps 0⟩⟩]:=by unfold Azz;rw[hs2];rfl
    refine chk (by kernel_rfl) ⟨_,by omega,i+1,hlt,rfl,?_⟩
    rw[hds,he,ACz hlt (by omega)]
   ·rw[hs1]at hst
    rw[←hs2]at hfi
    simp only[go_sem,BUz]at hst
    simp only[go_sem,seval,h1,hx,hst]
    refine chk (by kernel_rfl) ?_
    simp only[go_sem,seval,hx,hfi,l1]
    have he:(Azz t.Inodes ps p).pv=[.t ⟨⟨p⟩⟩,.i .i64 x.Kind,.s 1 (x.Data.map bpv),.s 2 (x.Attrs.map TAttr.pv),.t ⟨⟨BMz t.Inodes ps x.Ino⟩⟩]:=by unfold Azz;rw[←hs2];rfl
    refine chk (by kernel_rfl) ⟨_,by omega,i+1,hlt,rfl,?_⟩
    rw[hds,he,ACz hlt (by omega)]
  ·have h1:¬((i:Int)<(ps.length:Int)):=by omega
   obtain rfl:i=ps.length:=by omega
   rw[List.take_length]
   simp only[go_sem,seval,h1]
end Go.Proofs.YtblelojdboefjaaGreatDoor.R
namespace Go.Proofs.YtblelojdboefjaaGreatDoor.R
open Go
theorem UBz {x y:ByteArray} (h:A1z x y=true):x.toList<y.toList:=by
 unfold A1z at h
 rw[LTz]at h
 exact of_decide_eq_true h
theorem Sqz {es:List TEnt} (h:CLz es=true):∀(j i:Nat) (a b:TEnt),i<j→es[i]? =some a→es[j]? =some b→a.Name.toList<b.Name.toList:=by
 unfold CLz at h
 simp only[Bool.and_eq_true]at h
 have h1:=h.1
 intro j
 induction j with
 |zero=>intro i a b hi;exact absurd hi (Nat.not_lt_zero _)
 |succ j ih=>
  intro i a b hi ha hb
  have hj:=(List.getElem?_eq_some_iff.1 hb).1
  have h2:=DLz h1 hj
  unfold B2z FUz at h2
  rw[hb]at h2
  simp only[Nat.succ_ne_zero,if_false,Nat.add_sub_cancel]at h2
  have hc:es[j]? =some es[j]:=List.getElem?_eq_getElem (by omega)
  rw[hc]at h2
  simp only[Bool.and_eq_true]at h2
  have h3:=UBz h2.2
  rcases Nat.lt_succ_iff_lt_or_eq.1 hi with hi|rfl
  ·exact List.lt_trans (ih i a _ hi ha hc) h3
  ·rw[ha]at hc;injection hc with hc;rw[hc];exact h3
theorem Ssz {es:List TEnt} (h:CLz es=true) {e:TEnt} (he:e∈es):BAz e.Name.toList=true∧(e.Ino==0)=false:=by
 unfold CLz at h
 simp only[Bool.and_eq_true]at h
 obtain⟨i,hi⟩:=List.getElem?_of_mem he
 have h3:=DLz h.1 (List.getElem?_eq_some_iff.1 hi).1
 unfold B2z FUz at h3
 rw[hi]at h3
 simp only[Bool.and_eq_true]at h3
 have h4:=h3.1.1
 have h5:=h3.1.2
 unfold BYz at h4
 rw[ByteArray.toList_eq]
 refine⟨h4,?_⟩
 unfold inB at h5
 simp only[Bool.and_eq_true,decide_eq_true_eq]at h5
 have:e.Ino≠0:=by omega
 simpa using this
theorem Vwz {es:List TEnt} (h:CLz es=true) {e:TEnt} (he:e∈es):entI es e.Name.toList=e.Ino:=by
 obtain⟨i,hi⟩:=List.getElem?_of_mem he
 refine Juz hi (by simp) fun j y hj hy=> ?_
 have h1:=Sqz h i j y e hj hy hi
 have:y.Name.toList≠e.Name.toList:=fun h2=>by rw[h2]at h1;exact List.lt_irrefl _ h1
 simpa using this
def Flz (ns:List (List UInt8)):List UInt8:=ns.flatMap (47:: ·)
theorem Xcz {t:TTab} (h:AXz t=true) {x:TInode} (hx:x∈t.Inodes) {e:TEnt} (he:e∈x.Ents):(x.Kind==2)=true:=by
  have h1:=((Bnz h).2 x hx).1
  unfold Auz at h1
  simp only[Bool.and_eq_true]at h1
  have h2:=h1.2
  cases hk:(x.Kind==1)with
  |true=>
    rw[Njz hk]at h2
    have h3 : x.Ents.length = 0 := by have : (x.Ents.length : Int) = 0 := by simpa using h2
                                      omega
    rw[List.length_eq_zero_iff.1 h3]at he
    cases he
  |false=>
    cases hk2:(x.Kind==2)with
    |true=>rfl
    |false=>rw[Kgz hk hk2]at h2;cases h2
theorem NJz {t:TTab} (h:AXz t=true):∀(f:Nat) (k:Int) (p q:List UInt8),q∈AVz t.Inodes f (Avz t.Inodes k) p→
  ∃ns:List (List UInt8),ns≠[]∧ns.length≤f∧q=p++Flz ns∧ns.all BAz=true∧(BFz t.Inodes ns k).2=0∧(AIz t.Inodes (BFz t.Inodes ns k).1).isSome=true
 |0,k,p,q,hq=>by simp[AVz]at hq
 |f+1,k,p,q,hq=>by
  simp only[AVz]at hq
  obtain⟨e,he,hq⟩:=List.mem_flatMap.1 hq
  unfold Avz at he
  cases hn:AIz t.Inodes k with
  |none=>rw[hn]at he;cases he
  |some x=>
   rw[hn]at he
   have he:e∈x.Ents:=he
   have hx:=(Axz hn).1
   have hkd:=Xcz h hx he
   have hI:=((Bnz h).2 x hx).1
   unfold Auz at hI
   simp only[Bool.and_eq_true]at hI
   have hes:=hI.1.1.2
   obtain⟨h1,h2⟩:=Ssz hes he
   have h3:=Vwz hes he
   have h4:=Kwz h hx (nm:=e.Name.toList) (by rw[h3];exact h2)
   rw[h3]at h4
   have hstep:∀ns,BFz t.Inodes (e.Name.toList::ns) k=BFz t.Inodes ns e.Ino:=fun ns=>by
    simp only[BFz,hn,hkd,h3,h2]
   rcases List.mem_cons.1 hq with rfl|hq
   ·refine⟨[e.Name.toList],by simp,by simp,by simp[Flz],by simp[h1],?_,?_⟩
    ·rw[hstep];rfl
    ·rw[hstep];exact h4
   ·obtain⟨ns,g1,g2,g3,g4,g5,g6⟩:=NJz h f e.Ino _ q hq
    refine⟨e.Name.toList::ns,by simp,by simp only[List.length_cons];omega,?_,by simp[h1,g4],?_,?_⟩
    ·rw[g3];simp[Flz]
    ·rw[hstep];exact g5
    ·rw[hstep];exact g6
theorem L5z {l:List UInt8} (h:BAz l=true):∀c∈l,c≠47:=by
 intro c hc e
 subst e
 unfold BAz at h
 simp only[Bool.and_eq_true]at h
 have:=List.all_eq_true.1 h.1 _ hc
 revert this
 decide
theorem HLz:∀(n:List UInt8) (ns:List (List UInt8)),(∀c∈n,c≠47)→(∀m∈ns,∀c∈m,c≠47)→AUz (n++Flz ns)=n::ns
 |[],[],_,_=>rfl
 |[],m::ns,_,hs=>by
  have:=HLz m ns (hs m List.mem_cons_self) fun m' hm=>hs m' (List.mem_cons_of_mem _ hm)
  show AUz (47::(m++Flz ns))=_
  simp only[AUz,if_true,this]
 |c::n,ns,hn,hs=>by
  have:=HLz n ns (fun c' hc=>hn c' (List.mem_cons_of_mem _ hc)) hs
  show AUz (c::(n++Flz ns))=_
  simp only[AUz,if_neg (hn c List.mem_cons_self),this]
theorem QZz {t:TTab} {p:List UInt8} (hp:p∈BIz t):(Amz t.Inodes p).2=0∧stI t.Inodes p∈t.Inodes:=by
 have h:=LHz hp
 unfold BIz at hp
 rw[h]at hp
 have hp2:=(Dpz _).mem_iff.1 hp
 obtain⟨ns,g1,g2,g3,g4,g5,g6⟩:=NJz h 30 1 [] p hp2
 have hw:Amz t.Inodes p=BFz t.Inodes ns 1:=by
  cases ns with
  |nil=>exact absurd rfl g1
  |cons n ns=>
   have hall:∀m∈n::ns,BAz m=true:=List.all_eq_true.1 g4
   have hsp:=HLz n ns (L5z (hall n List.mem_cons_self)) fun m hm=>L5z (hall m (List.mem_cons_of_mem _ hm))
   have hpe:p=47::(n++Flz ns):=by rw[g3];simp[Flz]
   have hne:n++Flz ns≠[]:=by
    intro e
    have:n=[]:=(List.append_eq_nil_iff.1 e).1
    subst this
    have:=hall [] List.mem_cons_self
    revert this
    decide
   unfold Amz
   rw[hpe,Grz hne,hsp,if_pos (by simp only[Bool.and_eq_true,decide_eq_true_eq];exact⟨g2,g4⟩)]
 rw[hw]
 refine⟨g5,?_⟩
 obtain⟨x,hx⟩:=Option.isSome_iff_exists.1 g6
 unfold stI
 rw[hw]
 simp only[g5,hx]
 exact(Axz hx).1
theorem Rxz {t:TTab} {p:List UInt8} (hp:p∈BIz t):(stI t.Inodes p).Kind=1∨(stI t.Inodes p).Kind=2:=by
 have h1:=((Bnz (LHz hp)).2 _ (QZz hp).2).1
 unfold Auz at h1
 simp only[Bool.and_eq_true]at h1
 have h2:=h1.2
 cases hk:((stI t.Inodes p).Kind==1)with
 |true=>exact .inl (by simpa using hk)
 |false=>
  cases hk2:((stI t.Inodes p).Kind==2)with
  |true=>exact .inr (by simpa using hk2)
  |false=>rw[Kgz hk hk2]at h2;cases h2
end Go.Proofs.YtblelojdboefjaaGreatDoor.R
namespace Go.Proofs.YtblelojdboefjaaGreatDoor.R
open Go
def eqAs (l m:List TAttr):Bool:=decide (l.map (fun a=>(a.Name.toList,a.Val.toList))=m.map fun a=>(a.Name.toList,a.Val.toList))
def eqB (l m:List UInt8):Bool:=decide (l=m)
def eqE (a b:TEntry):Bool:=(a.Path.toList==b.Path.toList)&&(a.Kind==b.Kind)&&(a.First.toList==b.First.toList)&&eqB a.Data b.Data&&eqAs a.Attrs b.Attrs
theorem UVz (a b:TEntry):eqE a b=eqE b a:=by
 unfold eqE eqAs eqB
 simp only[Bool.beq_comm (a:=a.Path.toList),Bool.beq_comm (a:=a.Kind),Bool.beq_comm (a:=a.First.toList),eq_comm (a:=a.Data),eq_comm (a:=a.Attrs.map _)]
theorem Jfz {α:Type} {l m:List α} (hl:l.length=m.length) (h:l.take l.length=m.take l.length):l=m:=by
 rwa[List.take_length,hl,List.take_length]at h
theorem GNz {α:Type} {l m:List α} {j:Nat} {x:α} (h:l.take j=m.take j) (hx:l[j]? =some x) (hy:m[j]? =some x):l.take (j+1)=m.take (j+1):=by
 rw[List.take_add_one,List.take_add_one,h,hx,hy]
theorem OSz {l m:List UInt8} {j:Nat} {x y:UInt8} (hx:l[j]? =some x) (hy:m[j]? =some y) (h:((x.toNat:Int) !=(y.toNat:Int))=true):eqB l m=false:=by
 unfold eqB
 rw[decide_eq_false_iff_not]
 rintro rfl
 rw[hx]at hy;injection hy with hy;subst hy
 simp at h
theorem Oaz {l m:List TAttr} {j:Nat} {x y:TAttr} (hx:l[j]? =some x) (hy:m[j]? =some y) (h:(x.Name.toList==y.Name.toList&&x.Val.toList==y.Val.toList)=false):eqAs l m=false:=by
 unfold eqAs
 rw[decide_eq_false_iff_not]
 intro e
 have:=congrArg (fun l=>l[j]?) e
 simp only[List.getElem?_map,hx,hy,Option.map_some,Option.some.injEq,Prod.mk.injEq]at this
 simp[this.1,this.2]at h
theorem N6z {l m:List TAttr} (h:l.length≠m.length):eqAs l m=false:=by
 unfold eqAs
 rw[decide_eq_false_iff_not]
 intro e
 have:=congrArg List.length e
 simp at this
 exact h this
def keyA (l:List TAttr):List (List UInt8×List UInt8):=l.map fun a=>(a.Name.toList,a.Val.toList)
theorem Ptz {l m:List TAttr} (hl:l.length=m.length) (h:(keyA l).take l.length=(keyA m).take l.length):eqAs l m=true:=by
 unfold eqAs
 refine decide_eq_true ?_
 have:=Jfz (l:=keyA l) (m:=keyA m) (by simp[keyA,hl]) (by simpa[keyA]using h)
 exact this
theorem neL {α:Type} (x y:List α):((x.length:Int) !=(y.length:Int))= !decide (x.length=y.length):=by
 by_cases h:x.length=y.length
 ·simp[h]
 ·have:(x.length:Int)≠y.length:=by omega
  simp[h,this]
section
variable (n:Nat)
set_option maxHeartbeats 1000000 in
theorem LVz (hn:Big+1≤n) (l m:List UInt8) (hl:l.length≤Bd):pcall env n 113 [.c .one [.sh true (.s 1 ((l).map bpv))],.c .one [.sh true (.s 1 ((m).map bpv))]] []=some ⟨.c .one [.sh false (.b (eqB l m))],[]⟩:=by
 refine walk (fn:=Tryz.f113) (d:=0) hn rfl rfl rfl (Nat.le_of_ble_eq_true rfl) fun k hd=> ?_
 unfold Tryz.f113
 have hb:Bd=1048576:=rfl
 have e1:=neL l m
 by_cases hlm:l.length=m.length
 case neg=>
  have:eqB l m=false:=decide_eq_false (by rintro rfl;exact hlm rfl)
  rw[this]
  rw[decide_eq_false hlm]at e1
  simp only[go_sem,seval,e1,Bool.not_false]
 rw[decide_eq_true hlm]at e1
 simp only[go_sem,seval,e1,Bool.not_true]
 refine A5z l (fun j=>slots 26 [(0,.c .one [.sh true (.s 1 ((l).map bpv))]),(1,.c .one [.sh true (.s 1 ((m).map bpv))]),(5,.c .one [.sh false (.i .i64 (j:Nat))])]) (fun j=>l.take j=m.take j) (hd (Nat.zero_le _)) (by omega) ?_ (fun j x hx _ hj h1 hw hI=> ?_) (fun hI=> ?_)
 ·simp only[go_sem,seval];exact fin rfl rfl
 ·have hy:m[j]? =some m[j]:=List.getElem?_eq_getElem (by omega)
  generalize m[j]=y at hy
  cases hb:((x.toNat:Int) !=(y.toNat:Int))with
  |true=>
   rw[OSz hx hy hb]
   simp only[go_sem,seval,h1,hx,hy,bpv,hb]
   exact chk1 (by kernel_rfl)
  |false=>
   have hxy:x=y:=by
    have:(x.toNat:Int)=y.toNat:=by simpa using hb
    exact UInt8.toNat_inj.1 (by omega)
   subst hxy
   simp only[go_sem,seval,h1,hx,hy,bpv,hw,hb]
   refine chk (by kernel_rfl) ?_
   exact fin rfl (GNz hI hx hy)
 ·have:eqB l m=true:=decide_eq_true (Jfz hlm hI)
  rw[this]
  simp only[go_sem,seval]
set_option maxHeartbeats 1000000 in
theorem Maz (hn:Big+1≤n) (l m:List UInt8) (hl:l.length≤Bd):pcall env n 123 [.c .one [.sh true (.s 1 ((l).map bpv))],.c .one [.sh true (.s 1 ((m).map bpv))]] []=some ⟨.c .one [.sh false (.b (eqB l m))],[]⟩:=by
 refine walk (fn:=Tryz.f123) (d:=0) hn rfl rfl rfl (Nat.le_of_ble_eq_true rfl) fun k hd=> ?_
 unfold Tryz.f123
 have hb:Bd=1048576:=rfl
 have e1:=neL l m
 by_cases hlm:l.length=m.length
 case neg=>
  have:eqB l m=false:=decide_eq_false (by rintro rfl;exact hlm rfl)
  rw[this]
  rw[decide_eq_false hlm]at e1
  simp only[go_sem,seval,e1,Bool.not_false]
 rw[decide_eq_true hlm]at e1
 simp only[go_sem,seval,e1,Bool.not_true]
 refine A5z l (fun j=>slots 26 [(0,.c .one [.sh true (.s 1 ((l).map bpv))]),(1,.c .one [.sh true (.s 1 ((m).map bpv))]),(12,.c .one [.sh false (.i .i64 (l.length:Nat))]),(13,.c .one [.sh false (.i .i64 (j:Nat))])]) (fun j=>l.take j=m.take j) (hd (Nat.zero_le _)) (by omega) ?_ (fun j x hx _ hj h1 hw hI=> ?_) (fun hI=> ?_)
 ·simp only[go_sem,seval];exact fin rfl rfl
 ·have hy:m[j]? =some m[j]:=List.getElem?_eq_getElem (by omega)
  generalize m[j]=y at hy
  cases hb:((x.toNat:Int) !=(y.toNat:Int))with
  |true=>
   rw[OSz hx hy hb]
   simp only[go_sem,seval,h1,hx,hy,bpv,hb]
   exact chk1 (by kernel_rfl)
  |false=>
   have hxy:x=y:=by
    have:(x.toNat:Int)=y.toNat:=by simpa using hb
    exact UInt8.toNat_inj.1 (by omega)
   subst hxy
   simp only[go_sem,seval,h1,hx,hy,bpv,hw,hb]
   refine chk (by kernel_rfl) ?_
   exact fin rfl (GNz hI hx hy)
 ·have:eqB l m=true:=decide_eq_true (Jfz hlm hI)
  rw[this]
  simp only[go_sem,seval]
set_option maxHeartbeats 1000000 in
theorem Kez (hn:Big+1≤n) (l m:List TAttr) (hl:l.length≤Bd):pcall env n 114 [.c .one [.sh true (.s 2 (l.map TAttr.pv))],.c .one [.sh true (.s 2 (m.map TAttr.pv))]] []=some ⟨.c .one [.sh false (.b (eqAs l m))],[]⟩:=by
 refine walk (fn:=Tryz.f114) (d:=0) hn rfl rfl rfl (Nat.le_of_ble_eq_true rfl) fun k hd=> ?_
 unfold Tryz.f114
 have hb:Bd=1048576:=rfl
 have e1:=neL l m
 by_cases hlm:l.length=m.length
 case neg=>
  rw[N6z hlm]
  rw[decide_eq_false hlm]at e1
  simp only[go_sem,seval,e1,Bool.not_false]
 rw[decide_eq_true hlm]at e1
 simp only[go_sem,seval,e1,Bool.not_true]
 refine A5z l (fun j=>slots 26 [(0,.c .one [.sh true (.s 2 (l.map TAttr.pv))]),(1,.c .one [.sh true (.s 2 (m.map TAttr.pv))]),(5,.c .one [.sh false (.i .i64 (j:Nat))])]) (fun j=>(keyA l).take j=(keyA m).take j) (hd (Nat.zero_le _)) (by omega) ?_ (fun j x hx _ hj h1 hw hI=> ?_) (fun hI=> ?_)
 ·simp only[go_sem,seval];exact fin rfl rfl
 ·have hy:m[j]? =some m[j]:=List.getElem?_eq_getElem (by omega)
  generalize m[j]=y at hy
  cases hb:(x.Name.toList==y.Name.toList&&x.Val.toList==y.Val.toList)with
  |false=>
   rw[Oaz hx hy hb]
   simp only[go_sem,seval,h1,hx,hy,hb,Bool.not_false]
   exact chk1 (by kernel_rfl)
  |true=>
   simp only[go_sem,seval,h1,hx,hy,hw,hb,Bool.not_true]
   refine chk (by kernel_rfl) ?_
   have hk:(x.Name.toList,x.Val.toList)=(y.Name.toList,y.Val.toList):=by
    simp only[Bool.and_eq_true,beq_iff_eq]at hb
    rw[hb.1,hb.2]
   exact fin rfl (GNz (x:=(x.Name.toList,x.Val.toList)) hI (by simp[keyA,hx]) (by rw[hk];simp[keyA,hy]))
 ·rw[Ptz hlm hI]
  simp only[go_sem,seval]
set_option maxHeartbeats 1000000 in
theorem Mbz (hn:Big+1≤n) (l m:List TAttr) (hl:l.length≤Bd):pcall env n 124 [.c .one [.sh true (.s 2 (l.map TAttr.pv))],.c .one [.sh true (.s 2 (m.map TAttr.pv))]] []=some ⟨.c .one [.sh false (.b (eqAs l m))],[]⟩:=by
 refine walk (fn:=Tryz.f124) (d:=0) hn rfl rfl rfl (Nat.le_of_ble_eq_true rfl) fun k hd=> ?_
 unfold Tryz.f124
 have hb:Bd=1048576:=rfl
 have e1:=neL l m
 by_cases hlm:l.length=m.length
 case neg=>
  rw[N6z hlm]
  rw[decide_eq_false hlm]at e1
  simp only[go_sem,seval,e1,Bool.not_false]
 rw[decide_eq_true hlm]at e1
 simp only[go_sem,seval,e1,Bool.not_true]
 refine A5z l (fun j=>slots 26 [(0,.c .one [.sh true (.s 2 (l.map TAttr.pv))]),(1,.c .one [.sh true (.s 2 (m.map TAttr.pv))]),(12,.c .one [.sh false (.i .i64 (l.length:Nat))]),(13,.c .one [.sh false (.i .i64 (j:Nat))])]) (fun j=>(keyA l).take j=(keyA m).take j) (hd (Nat.zero_le _)) (by omega) ?_ (fun j x hx _ hj h1 hw hI=> ?_) (fun hI=> ?_)
 ·simp only[go_sem,seval];exact fin rfl rfl
 ·have hy:m[j]? =some m[j]:=List.getElem?_eq_getElem (by omega)
  generalize m[j]=y at hy
  cases hb:(x.Name.toList==y.Name.toList&&x.Val.toList==y.Val.toList)with
  |false=>
   rw[Oaz hx hy hb]
   simp only[go_sem,seval,h1,hx,hy,hb,Bool.not_false]
   exact chk1 (by kernel_rfl)
  |true=>
   simp only[go_sem,seval,h1,hx,hy,hw,hb,Bool.not_true]
   refine chk (by kernel_rfl) ?_
   have hk:(x.Name.toList,x.Val.toList)=(y.Name.toList,y.Val.toList):=by
    simp only[Bool.and_eq_true,beq_iff_eq]at hb
    rw[hb.1,hb.2]
   exact fin rfl (GNz (x:=(x.Name.toList,x.Val.toList)) hI (by simp[keyA,hx]) (by rw[hk];simp[keyA,hy]))
 ·rw[Ptz hlm hI]
  simp only[go_sem,seval]
theorem six (b1 b2 b3 b4 b5:Bool):b1=false∨(b1=true∧b2=false)∨(b1=true∧b2=true∧b3=false)∨(b1=true∧b2=true∧b3=true∧b4=false)∨(b1=true∧b2=true∧b3=true∧b4=true∧b5=false)∨(b1=true∧b2=true∧b3=true∧b4=true∧b5=true):=by
 cases b1<;>cases b2<;>cases b3<;>cases b4<;>cases b5<;>simp
set_option maxHeartbeats 4000000 in
theorem Kdz (hn:Big+2≤n) (a b:TEntry) (ha:a.ok):pcall env n 42 [.c .agg (a.pv.map AMz),.c .agg (b.pv.map AMz)] []=some ⟨.c .one [.sh false (.b (eqE a b))],[]⟩:=by
 refine walk (fn:=Tryz.f42) (d:=1) hn rfl rfl rfl (Nat.le_of_ble_eq_true rfl) fun k hd=> ?_
 unfold Tryz.f42
 have c1:=LVz k (hd (by decide)) a.Data b.Data ha.Data.2
 have c2:=Kez k (hd (by decide)) a.Attrs b.Attrs ha.Attrs.2
 try simp only[go_sem]at c1
 try simp only[go_sem]at c2
 unfold eqE
 rcases six (a.Path.toList==b.Path.toList) (a.Kind==b.Kind) (a.First.toList==b.First.toList) (eqB a.Data b.Data) (eqAs a.Attrs b.Attrs)with h|⟨h,h2⟩|⟨h,h2,h3⟩|⟨h,h2,h3,h4⟩|⟨h,h2,h3,h4,h5⟩|⟨h,h2,h3,h4,h5⟩
 all_goals
  simp only[go_sem,seval,h]
  try simp only[go_sem,seval,h2]
  try simp only[go_sem,seval,h3,c1]
  try simp only[go_sem,seval,h4,c2]
  try simp only[go_sem,seval,h5]
  try simp only[h,h2,h3,h4,h5,Bool.and_true,Bool.and_false,Bool.false_and,Bool.true_and]
  try rfl
set_option maxHeartbeats 4000000 in
theorem IIz (hn:Big+2≤n) (a b:TEntry) (ha:a.ok):pcall env n 48 [.c .agg (a.pv.map AMz),.c .agg (b.pv.map AMz)] []=some ⟨.c .one [.sh false (.b (eqE a b))],[]⟩:=by
 refine walk (fn:=Tryz.f48) (d:=1) hn rfl rfl rfl (Nat.le_of_ble_eq_true rfl) fun k hd=> ?_
 unfold Tryz.f48
 have c1:=Maz k (hd (by decide)) a.Data b.Data ha.Data.2
 have c2:=Mbz k (hd (by decide)) a.Attrs b.Attrs ha.Attrs.2
 try simp only[go_sem]at c1
 try simp only[go_sem]at c2
 unfold eqE
 rcases six (a.Path.toList==b.Path.toList) (a.First.toList==b.First.toList) (a.Kind==b.Kind) (eqB a.Data b.Data) (eqAs a.Attrs b.Attrs)with h|⟨h,h2⟩|⟨h,h2,h3⟩|⟨h,h2,h3,h4⟩|⟨h,h2,h3,h4,h5⟩|⟨h,h2,h3,h4,h5⟩
 all_goals
  simp only[go_sem,seval,h]
  try simp only[go_sem,seval,h2]
  try simp only[go_sem,seval,h3,c1]
  try simp only[go_sem,seval,h4,c2]
  try simp only[go_sem,seval,h5]
  try simp only[h,h2,h3,h4,h5,Bool.and_true,Bool.and_false,Bool.false_and,Bool.true_and]
  try rfl
end
end Go.Proofs.YtblelojdboefjaaGreatDoor.R
namespace Go.Proofs.YtblelojdboefjaaGreatDoor.R
open Go
theorem Q5z {l:List TInode} {ps:List (List UInt8)} {i:Nat} {p:List UInt8} (h:ps[i]? =some p):((ps.take (i+1)).map (Azz l ps)).map TEntry.ov=((ps.take i).map (Azz l ps)).map TEntry.ov++[(Azz l ps p).ov]:=by
 rw[List.take_add_one,h];simp
set_option maxHeartbeats 8000000 in
theorem JWz (n:Nat) (hn:Big+41≤n) (t:TTab) (ht:t.ok):pcall env n 46 [.c .agg (t.pv.map AMz)] []=some ⟨.c .one [.ow false 5 ((Anz t).map TEntry.ov)],[]⟩:=by
 obtain⟨m,rfl⟩:=AEz hn
 have hB:=ASz
 have hbd:Bd=1048576:=rfl
 have hlim:LIM=70368744177664:=rfl
 have hpt:=NGz m (by omega) t ht
 simp only[go_sem]at hpt
 have hlen:=HRz t
 have hsz:=fun q (hq:q∈BIz t)=>GYz hq
 have htr:=fun q (hq:q∈BIz t)=>LHz hq
 unfold Anz
 generalize BIz t=ps at hpt hlen hsz htr ⊢
 refine ANz (ADz (fn:=Tryz.f46) rfl rfl rfl (Nat.le_of_ble_eq_true rfl) ?_)
 unfold Tryz.f46
 simp only[go_sem,seval,hpt,Nat.zero_mul,Nat.zero_le]
 refine AFz (fun r σ=>∃(i:Nat),i≤ps.length∧r=ps.length - i∧σ=slots 62 [(1,.c .box [.sh true (.s 6 (t.Inodes.map TInode.pv)),.sh false (.i .i64 t.Next)]),(3,.c .one [.ow false 5 (((ps.take i).map (Azz t.Inodes ps)).map TEntry.ov)]),(15,.c .one [.ow false 1 (ps.map ppv)]),(16,.c .one [.sh false (.i .i64 (ps.length:Nat))]),(17,.c .one [.sh false (.i .i64 (i:Nat))])]) ps.length (by omega) ?_ ?_
 ·simp only[go_sem,seval]
  exact⟨0,Nat.zero_le _,rfl,rfl⟩
 ·rintro r σ ⟨i,hi,rfl,rfl⟩
  by_cases hlt:i<ps.length
  ·have h1:((i:Int)<(ps.length:Int)):=by omega
   have hx:ps[i]? =some ps[i]:=List.getElem?_eq_getElem hlt
   have hT:=htr _ (List.getElem_mem hlt)
   have hq:=hsz _ (List.getElem_mem hlt)
   generalize ps[i]=p at hx hq
   have hst:=Otz m (by omega) t ht p (by omega)
   simp only[go_sem]at hst
   have hds:=Q5z (l:=t.Inodes) hx
   have htl:(ps.take i).length=i:=by rw[List.length_take];omega
   have l1:((ps.take i).length+1)*88≤LIM:=by rw[htl];omega
   rcases KDz t.Inodes p with⟨c,hs1,hs2⟩|⟨x,hs2,hs1⟩
   ·rw[hs1]at hst
    simp only[go_sem,B1z]at hst
    simp only[go_sem,seval,h1,hx,hst]
    refine AFz (fun r' σ=>∃j:Nat,j≤i∧r'=i - j∧(∀(a:Nat) (q:List UInt8),a<j→ps[a]? =some q→((Amz t.Inodes q).1==0)=false)∧σ=slots 62 [(1,.c .box [.sh true (.s 6 (t.Inodes.map TInode.pv)),.sh false (.i .i64 t.Next)]),(3,.c .one [.ow false 5 (((ps.take i).map (Azz t.Inodes ps)).map TEntry.ov)]),(5,.c .one [.sh false (.t ⟨⟨p⟩⟩)]),(6,.c .box [.sh false (.i .i64 0),.sh false (.i .i64 0),.sh false (.i .i64 0),.ow false 1 [],.ow false 2 [],.ow false 2 []]),(8,.c .one [.sh false (.t ⟨⟨p⟩⟩)]),(15,.c .one [.ow false 1 (ps.map ppv)]),(16,.c .one [.sh false (.i .i64 (ps.length:Nat))]),(17,.c .one [.sh false (.i .i64 (i:Nat))]),(28,.c .one [.br 3 0 [] 0 0 false 5 (((ps.take i).map (Azz t.Inodes ps)).map TEntry.ov)]),(29,.c .one [.sh false (.i .i64 (i:Nat))]),(30,.c .one [.sh false (.i .i64 (j:Nat))])]) i (by omega) ?_ ?_
    ·simp only[go_sem,seval,htl]
     exact⟨0,Nat.zero_le _,rfl,fun i y hi=>absurd hi (Nat.not_lt_zero _),rfl⟩
    ·rintro r' σ ⟨j,hj,rfl,hpr,rfl⟩
     by_cases hlt2:j<i
     ·have h2:((j:Int)<(i:Int)):=by omega
      have hjl:j<ps.length:=by omega
      have hxj:ps[j]? =some ps[j]:=List.getElem?_eq_getElem hjl
      have hqs:=hsz _ (List.getElem_mem hjl)
      generalize ps[j]=q at hxj hqs
      have hxt:(ps.take i)[j]? =some q:=by rw[List.getElem?_take_of_lt hlt2,hxj]
      have hw:=Gmz m (by omega) t ht q (by omega)
      simp only[go_sem,tup2]at hw
      cases ha:((Amz t.Inodes q).1==0)with
      |true=>
       have hfq:BMz t.Inodes ps (stI t.Inodes q).Ino=BMz t.Inodes ps (stI t.Inodes p).Ino:=Knz hT (by rw[hs2];exact ha)
       simp only[go_sem,seval,h2,hxt,hw,ha,Azz,l1]
       have he:(Azz t.Inodes ps p).ov=[.t ⟨⟨p⟩⟩,.i .i64 0,.o 1 [],.o 2 [],.t ⟨⟨BMz t.Inodes ps (stI t.Inodes q).Ino⟩⟩]:=by unfold Azz;rw[←hfq,hs2];rfl
       refine⟨_,by omega,i+1,hlt,rfl,?_⟩
       rw[hds,he,ACz hlt (by omega)]
      |false=>
       simp only[go_sem,seval,h2,hxt,hw,ha,Azz,ACz hlt2 (by omega)]
       refine⟨_,by omega,j+1,hlt2,rfl,fun a y hi hy=> ?_,by with_reducible rfl⟩
       rcases Nat.lt_succ_iff_lt_or_eq.1 hi with h|h
       ·exact hpr a y h hy
       ·subst h;rw[hxj]at hy;injection hy with hy;subst hy;exact ha
     ·have h2:¬((j:Int)<(i:Int)):=by omega
      obtain rfl:j=i:=by omega
      have hfp:BMz t.Inodes ps (stI t.Inodes p).Ino=p:=N2z hT hx (by rw[hs2];exact hpr)
      simp only[go_sem,seval,h2,l1]
      have he:(Azz t.Inodes ps p).ov=[.t ⟨⟨p⟩⟩,.i .i64 0,.o 1 [],.o 2 [],.t ⟨⟨p⟩⟩]:=by unfold Azz;rw[hfp,hs2];rfl
      refine⟨_,by omega,j+1,hlt,rfl,?_⟩
      rw[hds,he,ACz hlt (by omega)]
   ·rw[hs1]at hst
    simp only[go_sem,BUz]at hst
    simp only[go_sem,seval,h1,hx,hst]
    refine AFz (fun r' σ=>∃j:Nat,j≤i∧r'=i - j∧(∀(a:Nat) (q:List UInt8),a<j→ps[a]? =some q→((Amz t.Inodes q).1==x.Ino)=false)∧σ=slots 62 [(1,.c .box [.sh true (.s 6 (t.Inodes.map TInode.pv)),.sh false (.i .i64 t.Next)]),(3,.c .one [.ow false 5 (((ps.take i).map (Azz t.Inodes ps)).map TEntry.ov)]),(5,.c .one [.sh false (.t ⟨⟨p⟩⟩)]),(6,.c .box [.sh false (.i .i64 x.Ino),.sh false (.i .i64 x.Kind),.sh false (.i .i64 x.Links),.ow false 1 (x.Data.map bpv),.ow false 2 (x.Ents.map TEnt.pv),.ow false 2 (x.Attrs.map TAttr.pv)]),(8,.c .one [.sh false (.t ⟨⟨p⟩⟩)]),(15,.c .one [.ow false 1 (ps.map ppv)]),(16,.c .one [.sh false (.i .i64 (ps.length:Nat))]),(17,.c .one [.sh false (.i .i64 (i:Nat))]),(28,.c .one [.br 3 0 [] 0 0 false 5 (((ps.take i).map (Azz t.Inodes ps)).map TEntry.ov)]),(29,.c .one [.sh false (.i .i64 (i:Nat))]),(30,.c .one [.sh false (.i .i64 (j:Nat))])]) i (by omega) ?_ ?_
    ·simp only[go_sem,seval,htl]
     exact⟨0,Nat.zero_le _,rfl,fun i y hi=>absurd hi (Nat.not_lt_zero _),rfl⟩
    ·rintro r' σ ⟨j,hj,rfl,hpr,rfl⟩
     by_cases hlt2:j<i
     ·have h2:((j:Int)<(i:Int)):=by omega
      have hjl:j<ps.length:=by omega
      have hxj:ps[j]? =some ps[j]:=List.getElem?_eq_getElem hjl
      have hqs:=hsz _ (List.getElem_mem hjl)
      generalize ps[j]=q at hxj hqs
      have hxt:(ps.take i)[j]? =some q:=by rw[List.getElem?_take_of_lt hlt2,hxj]
      have hw:=Gmz m (by omega) t ht q (by omega)
      simp only[go_sem,tup2]at hw
      cases ha:((Amz t.Inodes q).1==x.Ino)with
      |true=>
       have hfq:BMz t.Inodes ps (stI t.Inodes q).Ino=BMz t.Inodes ps (stI t.Inodes p).Ino:=Knz hT (by rw[←hs2];exact ha)
       simp only[go_sem,seval,h2,hxt,hw,ha,Azz,l1]
       have he:(Azz t.Inodes ps p).ov=[.t ⟨⟨p⟩⟩,.i .i64 x.Kind,.o 1 (x.Data.map bpv),.o 2 (x.Attrs.map TAttr.pv),.t ⟨⟨BMz t.Inodes ps (stI t.Inodes q).Ino⟩⟩]:=by unfold Azz;rw[←hfq,←hs2];rfl
       refine⟨_,by omega,i+1,hlt,rfl,?_⟩
       rw[hds,he,ACz hlt (by omega)]
      |false=>
       simp only[go_sem,seval,h2,hxt,hw,ha,Azz,ACz hlt2 (by omega)]
       refine⟨_,by omega,j+1,hlt2,rfl,fun a y hi hy=> ?_,by with_reducible rfl⟩
       rcases Nat.lt_succ_iff_lt_or_eq.1 hi with h|h
       ·exact hpr a y h hy
       ·subst h;rw[hxj]at hy;injection hy with hy;subst hy;exact ha
     ·have h2:¬((j:Int)<(i:Int)):=by omega
      obtain rfl:j=i:=by omega
      have hfp:BMz t.Inodes ps (stI t.Inodes p).Ino=p:=N2z hT hx (by rw[←hs2];exact hpr)
      simp only[go_sem,seval,h2,l1]
      have he:(Azz t.Inodes ps p).ov=[.t ⟨⟨p⟩⟩,.i .i64 x.Kind,.o 1 (x.Data.map bpv),.o 2 (x.Attrs.map TAttr.pv),.t ⟨⟨p⟩⟩]:=by unfold Azz;rw[hfp,←hs2];rfl
      refine⟨_,by omega,j+1,hlt,rfl,?_⟩
      rw[hds,he,ACz hlt (by omega)]
  ·have h1:¬((i:Int)<(ps.length:Int)):=by omega
   obtain rfl:i=ps.length:=by omega
   rw[List.take_length]
   simp only[go_sem,seval,h1]
end Go.Proofs.YtblelojdboefjaaGreatDoor.R
namespace Go.Proofs.YtblelojdboefjaaGreatDoor.R
open Go
theorem GKz:∀{a b r p:Path},strip a b=some r→strip a (b++p)=some (r++p)
 |[],b,r,p,h=>by simp only[strip]at h ⊢;injection h with h;rw[h]
 |x::a,[],r,p,h=>by simp[strip]at h
 |x::a,y::b,r,p,h=>by
  simp only[strip,List.cons_append]at h ⊢
  split at h
  ·rename_i e;rw[if_pos e];exact GKz h
  ·cases h
theorem BZz {g:PV→PV} {i j:Nat} {q:Path} {es:Nat} {rows:List (List PV)}:modP g ((i,j)::q) (.o es rows)=(match rows[i]? with
  |some row=>match row[j]? with
   |some p=> .o es (rows.set i (row.set j (modP g q p)))
   |none=> .o es rows
  |none=> .o es rows):=rfl
theorem NVz:∀{q p:Path} {g h:PV→PV} {x:PV},modP g q (modP h (q++p) x)=modP (fun y=>g (modP h p y)) q x
 |[],p,g,h,x=>by rw[Bgz,Bgz];rfl
 |(i,j)::q,p,g,h,x=>by
  cases x with
  |o es rows=>
   simp only[List.cons_append,BZz]
   cases hr:rows[i]? with
   |none=>simp only[BZz,hr]
   |some row=>
    simp only
    cases hv:row[j]? with
    |none=>simp only[BZz,hr,hv]
    |some v=>
     obtain⟨hi,_⟩:=List.getElem?_eq_some_iff.1 hr
     obtain⟨hj,_⟩:=List.getElem?_eq_some_iff.1 hv
     simp only[BZz,List.getElem?_set_self hi,List.getElem?_set_self hj,List.set_set,NVz]
  |_=>rfl
theorem L8z:∀{q p:Path} {g h:PV→PV} {x:PV},modP h (q++p) (modP g q x)=modP (fun y=>modP h p (g y)) q x
 |[],p,g,h,x=>by rw[Bgz,Bgz];rfl
 |(i,j)::q,p,g,h,x=>by
  cases x with
  |o es rows=>
   simp only[List.cons_append,BZz]
   cases hr:rows[i]? with
   |none=>simp only[BZz,hr]
   |some row=>
    simp only
    cases hv:row[j]? with
    |none=>simp only[BZz,hr,hv]
    |some v=>
     obtain⟨hi,_⟩:=List.getElem?_eq_some_iff.1 hr
     obtain⟨hj,_⟩:=List.getElem?_eq_some_iff.1 hv
     simp only[BZz,List.getElem?_set_self hi,List.getElem?_set_self hj,List.set_set,L8z]
  |_=>rfl
def isO:PV→Bool
 | .o _ _=>true
 |_=>false
def Stuck (g:PV→PV):Prop:=∀y,isO y=false→isO (g y)=false
theorem Stuck.modP {g:PV→PV} (h:Stuck g):∀q,Stuck (modP g q)
 |[],y,hy=>by rw[Bgz];exact h y hy
 |(i,j)::q,y,hy=>by cases y<;>first|exact hy|simp[isO]at hy
theorem Stuck.rows {es:Nat} {r:List (List PV)}:Stuck (AKz es r):=fun y hy=>by cases y<;>first|exact hy|simp[isO]at hy
theorem NKz {f:Bool} {y:PV} (h:isO y=false):owBy f y= .dead:=by cases y<;>first|rfl|simp[isO]at h
theorem Hpz {s o:Nat} {q:Path} {f:Bool} {y:PV} (h:isO y=false):brBy s o q f y= .dead:=by cases y<;>first|rfl|simp[isO]at h
section
variable {s o:Nat} {f1 f2:Bool} {σ:St}
theorem RSz {qa qb qc:Path} {g1 g2 g:PV→PV} {k j:Nat} {f:Bool} {es:Nat} {rows:List (List PV)} (hg2:Stuck g2) (key:R.modP g2 qb (R.modP g1 qa (.o es rows))=R.modP g qc (.o es rows)):
  modC s o qb g2 f2 k j (modC s o qa g1 f1 k j (.ow f es rows))=modC s o qc g (f1||f2) k j (.ow f es rows):=by
 simp only[modC]
 by_cases hk:k=s∧j=o
 ·simp only[if_pos hk,←key]
  cases hz:isO (R.modP g1 qa (.o es rows))
  ·rw[NKz hz,NKz (hg2.modP _ _ hz)];rfl
  ·cases hx:R.modP g1 qa (.o es rows)with
   |o es2 rows2=>simp only[owBy,modC,if_pos hk,Bool.or_assoc]
   |_=>rw[hx]at hz;cases hz
 ·simp only[if_neg hk,modC]
theorem RTz:∀a b q,(Ayz s o a b q).bind (fun r=>Ayz s o r.1 r.2.1 r.2.2)=Ayz s o a b q:=fun a b q=>by
 unfold Ayz
 by_cases hk:a=s∧b=o
 ·simp[hk]
 ·simp[hk]
theorem NUz {q p:Path} {g1 g2 g:PV→PV} (h2:Stuck g2) (e:∀y,g2 (R.modP g1 p y)=g y):
  modS s o q g2 f2 (modS s o (q++p) g1 f1 σ)=modS s o q g (f1||f2) σ:=by
 have eg:(fun y=>g2 (R.modP g1 p y))=g:=funext e
 have key:∀(r:Path) (x:PV),R.modP g2 r (R.modP g1 (r++p) x)=R.modP g r x:=fun r x=>by rw[NVz,eg]
 unfold modS
 refine Fiz (fun k j c=> ?_) RTz 0 σ
 cases c with
 |ow f es1 rows=>exact RSz h2 (key _ _)
 |br a b q' kd lo f es1 rows=>
  simp only[modC,modL]
  by_cases hk:a=s∧b=o
  ·simp only[if_pos hk]
   by_cases h0:kd=0
   ·simp only[if_pos h0]
    cases hs:strip q' q with
    |some r=>
     simp only[GKz hs,←key]
     cases hz:isO (R.modP g1 (r++p) (.o es1 rows))
     ·rw[Hpz hz,Hpz (h2.modP _ _ hz)]
     ·cases hx:R.modP g1 (r++p) (.o es1 rows)with
      |o es2 rows2=>simp only[brBy,modC,modL,if_pos hk,if_true,hs,Bool.or_assoc]
      |_=>rw[hx]at hz;cases hz
    |none=>
     cases hs2:strip q' (q++p)with
     |none=>rfl
     |some r=>
      simp only
      cases hx:R.modP g1 r (.o es1 rows)with
      |o es2 rows2=>simp only[brBy,modC,modL,if_pos hk,if_true,hs]
      |_=>rfl
   ·simp only[if_neg h0]
  ·simp only[if_neg hk,modC,modL]
 |_=>rfl
theorem VZz {q p:Path} {g1 g2 g:PV→PV} (h2:Stuck g2) (e:∀y,R.modP g2 p (g1 y)=g y):
  modS s o (q++p) g2 f2 (modS s o q g1 f1 σ)=modS s o q g (f1||f2) σ:=by
 have eg:(fun y=>R.modP g2 p (g1 y))=g:=funext e
 have key:∀(r:Path) (x:PV),R.modP g2 (r++p) (R.modP g1 r x)=R.modP g r x:=fun r x=>by rw[L8z,eg]
 unfold modS
 refine Fiz (fun k j c=> ?_) RTz 0 σ
 cases c with
 |ow f es1 rows=>exact RSz h2 (key _ _)
 |br a b q' kd lo f es1 rows=>
  simp only[modC,modL]
  by_cases hk:a=s∧b=o
  ·simp only[if_pos hk]
   by_cases h0:kd=0
   ·simp only[if_pos h0]
    cases hs:strip q' q with
    |some r=>
     simp only[←key]
     cases hz:isO (R.modP g1 r (.o es1 rows))
     ·rw[Hpz hz,Hpz (h2.modP _ _ hz)]
     ·cases hx:R.modP g1 r (.o es1 rows)with
      |o es2 rows2=>simp only[brBy,modC,modL,if_pos hk,if_true,GKz hs,Bool.or_assoc]
      |_=>rw[hx]at hz;cases hz
    |none=>rfl
   ·simp only[if_neg h0]
  ·simp only[if_neg hk,modC,modL]
 |_=>rfl
theorem Tmz {es:Nat} {r1 r2:List (List PV)} (h:r1.length=r2.length) (y:PV):AKz es r2 (R.modP (AKz es r1) [] y)=AKz es r2 y:=by
 rw[Bgz]
 cases y with
 |o es' rows=>
  simp only[AKz]
  by_cases hc:es'=es∧rows.length=r1.length
  ·obtain⟨rfl,hl⟩:=hc
   simp only[hl,h,and_self,if_true]
  ·rw[if_neg hc,if_neg fun h'=>hc ⟨h'.1,h'.2.trans h.symm⟩]
 |_=>rfl
theorem Tzz {es es' i j:Nat} {r1 r2:List (List PV)} (y:PV):AKz es r2 (R.modP (AKz es' r1) [(i,j)] y)=AKz es r2 y:=by
 cases y with
 |o es0 rows=>
  rw[BZz]
  split
  ·split
   ·simp only[AKz,List.length_set]
   ·rfl
  ·rfl
 |_=>rfl
theorem Voz {es es' i j:Nat} {r1:List PV} {r0 r:List (List PV)} {rows:List (List PV)} (h1:rows[i]? =some r1) (h2:r1[j]? =some (.o es' r0)) (h3:r0.length=r.length) (y:PV):
  R.modP (AKz es' r) [(i,j)] (AKz es rows y)=AKz es (rows.set i (r1.set j (.o es' r))) y:=by
 cases y with
 |o es0 rs=>
  simp only[AKz,List.length_set]
  by_cases hc:es0=es∧rs.length=rows.length
  ·rw[if_pos hc,if_pos hc,BZz]
   simp only[h1,h2,Bgz,AKz]
   rw[if_pos ⟨trivial,h3⟩]
  ·rw[if_neg hc,if_neg hc];rfl
 |_=>rfl
theorem Jsz {g:PV→PV} {es:Nat} {rows r:List (List PV)} (hg:g (.o es rows)= .o es r):∀{q:Path} {x:PV},getP q x=some (es,rows)→getP q (R.modP g q x)=some (es,r)∧isO (R.modP g q x)=true
 |[],x,h=>by
  cases x with
  |o es' rows'=>simp only[getP]at h;injection h with h;injection h with h1 h2;subst h1;subst h2;rw[Bgz,hg];exact⟨rfl,rfl⟩
  |_=>simp[getP]at h
 |(i,j)::q,x,h=>by
  cases x with
  |o es' rows'=>
   simp only[getP]at h
   obtain⟨row,h1,h⟩:=Option.bind_eq_some_iff.1 h
   obtain⟨v,h2,h⟩:=Option.bind_eq_some_iff.1 h
   obtain⟨hi,_⟩:=List.getElem?_eq_some_iff.1 h1
   obtain⟨hj,_⟩:=List.getElem?_eq_some_iff.1 h2
   rw[BZz]
   simp only[h1,h2]
   refine⟨?_,rfl⟩
   simp only[getP,List.getElem?_set_self hi,List.getElem?_set_self hj,Option.bind_some]
   exact(Jsz hg h).1
  |_=>simp[getP]at h
theorem Nzz {p:Path} {es:Nat} {rows:List (List PV)}:∀{q:Path} {x:PV},getP q x=some (es,rows)→getP (q++p) x=getP p (.o es rows)
 |[],x,h=>by
  cases x with
  |o es' rows'=>simp only[getP]at h;injection h with h;injection h with h1 h2;subst h1;subst h2;rfl
  |_=>simp[getP]at h
 |(i,j)::q,x,h=>by
  cases x with
  |o es' rows'=>
   simp only[getP,List.cons_append]at h ⊢
   obtain⟨row,h1,h⟩:=Option.bind_eq_some_iff.1 h
   obtain⟨v,h2,h⟩:=Option.bind_eq_some_iff.1 h
   rw[h1,Option.bind_some,h2,Option.bind_some]
   exact Nzz h
  |_=>simp[getP]at h
theorem Ljz {c:CV} {q:Path} {fl:Bool} {es:Nat} {rows:List (List PV)} (h:c.atQ q=some (fl,es,rows)):∃es0 rows0,c= .ow fl es0 rows0∧getP q (.o es0 rows0)=some (es,rows):=by
 cases c with
 |ow f es0 rows0=>
  simp only[CV.atQ]at h
  obtain⟨r,h1,h2⟩:=Option.map_eq_some_iff.1 h
  injection h2 with h3 h4
  subst h3;subst h4
  exact⟨es0,rows0,rfl,h1⟩
 |_=>simp[CV.atQ]at h
structure Wr (s o:Nat) (q:Path) (es d:Nat) (σ0 σ:St) (rows:List (List PV)):Prop where
 cell:(ABz σ s o).atQ q=some (false,es,rows)
 len:σ.length=σ0.length
 pl:plain (σ.getD d .undef)=true
 to:∀r:List (List PV),r.length=rows.length→modS s o q (AKz es r) false σ=modS s o q (AKz es r) false σ0
def Nrm (s o:Nat) (q:Path) (es:Nat) (σ0 σ:St) (rows:List (List PV)):Prop:=σ=modS s o q (AKz es rows) false σ0
theorem Wr.refl {q:Path} {es d:Nat} {rows:List (List PV)} (h:(ABz σ s o).atQ q=some (false,es,rows)) (hp:plain (σ.getD d .undef)=true):Wr s o q es d σ σ rows:=⟨h,rfl,hp,fun _ _=>rfl⟩
theorem Wr.store {q:Path} {es d:Nat} {σ0:St} {rows r:List (List PV)} (h:Wr s o q es d σ0 σ rows) (hr:r.length=rows.length):Wr s o q es d σ0 (modS s o q (AKz es r) false σ) r where
 cell:=by
  obtain⟨es0,rows0,h1,h2⟩:=Ljz h.cell
  have hg:AKz es r (.o es rows)= .o es r:=by simp only[AKz];rw[if_pos ⟨trivial,hr.symm⟩]
  obtain⟨h3,h4⟩:=Jsz hg h2
  rw[APz,h1,Jlz,if_pos ⟨rfl,rfl⟩]
  cases hx:R.modP (AKz es r) q (.o es0 rows0)with
  |o es1 rows1=>rw[hx]at h3;simp only[owBy,CV.atQ,h3,Option.map_some];rfl
  |_=>rw[hx]at h4;cases h4
 len:=by rw[E1z,h.len]
 pl:=Ekz h.pl
 to:=fun r' hr'=>by
  have:=NUz (s:=s) (o:=o) (q:=q) (p:=[]) (f1:=false) (f2:=false) (σ:=σ) (g:=AKz es r') Stuck.rows (Tmz (es:=es) (r1:=r) hr'.symm)
  rw[List.append_nil]at this
  rw[this]
  exact h.to r' (hr'.trans hr)
theorem Wr.nrm {q:Path} {es d:Nat} {σ0:St} {rows r:List (List PV)} (h:Wr s o q es d σ0 σ rows) (hr:r.length=rows.length):Nrm s o q es σ0 (modS s o q (AKz es r) false σ) r:=h.to r hr
theorem Wr.nest {q:Path} {es es' d i j:Nat} {σ0:St} {rows r0 r:List (List PV)} {row:List PV} (h:Wr s o q es d σ0 σ rows) (h1:rows[i]? =some row) (h2:row[j]? =some (.o es' r0)) (h3:r0.length=r.length):
  Wr s o q es d σ0 (modS s o (q++[(i,j)]) (AKz es' r) false σ) (rows.set i (row.set j (.o es' r)))where
 cell:=by
  obtain⟨es0,rows0,g1,g2⟩:=Ljz h.cell
  have e:R.modP (AKz es' r) (q++[(i,j)]) (.o es0 rows0)=R.modP (AKz es (rows.set i (row.set j (.o es' r)))) q (.o es0 rows0):=by
   have key:∀{q:Path} {x:PV},getP q x=some (es,rows)→R.modP (AKz es' r) (q++[(i,j)]) x=R.modP (AKz es (rows.set i (row.set j (.o es' r)))) q x:=by
    intro q
    induction q with
    |nil=>
     intro x hx
     cases x with
     |o es1 rows1=>
      simp only[getP]at hx;injection hx with hx;injection hx with hx1 hx2;subst hx1;subst hx2
      rw[List.nil_append,Bgz,BZz]
      simp only[h1,h2,Bgz,AKz,List.length_set]
      rw[if_pos ⟨trivial,h3⟩,if_pos ⟨trivial,trivial⟩]
     |_=>simp[getP]at hx
    |cons a q ih=>
     obtain⟨a,b⟩:=a
     intro x hx
     cases x with
     |o es1 rows1=>
      simp only[getP]at hx
      obtain⟨row1,k1,hx⟩:=Option.bind_eq_some_iff.1 hx
      obtain⟨v,k2,hx⟩:=Option.bind_eq_some_iff.1 hx
      rw[List.cons_append,BZz,BZz]
      simp only[k1,k2,ih hx]
     |_=>simp[getP]at hx
   exact key g2
  have hg:AKz es (rows.set i (row.set j (.o es' r))) (.o es rows)= .o es (rows.set i (row.set j (.o es' r))):=by simp only[AKz,List.length_set];rw[if_pos ⟨trivial,trivial⟩]
  obtain⟨k3,k4⟩:=Jsz hg g2
  rw[APz,g1,Jlz,if_pos ⟨rfl,rfl⟩,e]
  cases hx:R.modP (AKz es (rows.set i (row.set j (.o es' r)))) q (.o es0 rows0)with
  |o es1 rows1=>rw[hx]at k3;simp only[owBy,CV.atQ,k3,Option.map_some];rfl
  |_=>rw[hx]at k4;cases k4
 len:=by rw[E1z,h.len]
 pl:=Ekz h.pl
 to:=fun r' hr'=>by
  rw[NUz (g:=AKz es r') Stuck.rows Tzz]
  exact h.to r' (by rw[hr',List.length_set])
theorem Nrm.nest {q:Path} {es es' i j:Nat} {σ0:St} {rows r0 r:List (List PV)} {row:List PV} (h:Nrm s o q es σ0 σ rows) (h1:rows[i]? =some row) (h2:row[j]? =some (.o es' r0)) (h3:r0.length=r.length):
  Nrm s o q es σ0 (modS s o (q++[(i,j)]) (AKz es' r) false σ) (rows.set i (row.set j (.o es' r))):=by
 unfold Nrm at h ⊢
 rw[h,VZz Stuck.rows (Voz h1 h2 h3)]
 rfl
def tu (s o:Nat) (q:Path) (es:Nat) (rows r:List (List PV)) (σ:St):St:=match rows with
 |[]=>σ
 |_::_=>modS s o q (AKz es r) false σ
@[go_sem] theorem AFkz {q:Path} {es:Nat} {r:List (List PV)}:tu s o q es [] r σ=σ:=rfl
@[go_sem] theorem ACkz {q:Path} {es:Nat} {x:List PV} {l r:List (List PV)}:tu s o q es (x::l) r σ=modS s o q (AKz es r) false σ:=rfl
attribute [go_sem] Fcz
@[go_sem] theorem Yfz {q p:Path} {a:Nat×Nat}:strip (q++a::p) q=none:=by
 induction q with
 |nil=>rfl
 |cons b q ih=>simp only[List.cons_append,strip,if_true,ih]
@[go_sem] theorem Yhz {q p r:Path}:strip (q++p) (q++r)=strip p r:=by
 induction q with
 |nil=>rfl
 |cons b q ih=>simp only[List.cons_append,strip,if_true,ih]
@[go_sem] theorem ZWz {a b:Nat×Nat}:strip [a] [b]=if a=b then some []else none:=rfl
@[go_sem] theorem VOz {q p:Path}:strip q (q++p)=some p:=by
 have:=GKz (p:=p) (Fcz q)
 simpa using this
end
theorem HHz {E:Env} {n d0:Nat} {f:FuncId} {d:Nat} {τ:St} {args:List SV} {r:St×SV} {fn:Func} {code:Code} (hn:Big+(d0+1)≤n) (hf:E.fns f=some fn) (hb:fn.body=some code) (hl:args.length≤fn.ntmps)
  (h:∀m,(∀{k},k≤d0→Big+k≤m)→ @Wq _ (AGz (E.run f (icall E m)) (pcall E m) fn.ntmps m code (IBz fn.ntmps args τ)) ⟨fun q=>ended q.1∧ @Wq _ (E4z (E.run f (icall E m)).T fn.ntmps d fn.results.toList q.2) ⟨fun s=>s=r⟩⟩):icall E n f d τ args=some r:=by
 obtain⟨m,rfl⟩:∃m,n=m+1:=⟨n - 1,by have:=ASz;omega⟩
 exact ANz (TKz hf hb hl (h m fun hk=>by omega))
theorem DJz {T:Tys} {N d t:Nat} {τ σ:St} {p:PV} (hτ:Tail N τ σ) (hd:d<σ.length) (hp:plain (σ.getD d .undef)=true) (ht:t<N)
  (hg:τ.getD t .undef= .c .one [.sh false p]):E4z T N d [.tmp t] τ=some (σ.set d (.c .one [.sh false p]),.c .one [.sh false p]):=by
 have hT:Tail N (τ.set (N+d) .undef) (σ.set d .undef):=hτ.put (v:= .undef)
 refine Koz (sh:=[(false,1)]) (cs:=[.sh false p]) (cs0:=[.sh false p]) hτ hd hp ?_ hT rfl
 have h1:(τ.set (N+d) .undef).getD t .undef= .c .one [.sh false p]:=by
  rw[List.getD_eq_getElem?_getD,List.getElem?_set_ne (by omega),←List.getD_eq_getElem?_getD];exact hg
 have h3:EKz T N (τ.set (N+d) .undef) (.tmp t)=some (.c .one [.sh false p]):=by
  simp only[EKz,opd,if_pos ht,h1];rfl
 simp only[BGz,h3,Option.bind_some,KLz,Dfz,id_eq,Enz,persist,Option.map_some]
 rfl
class HeldE where
 ix:Type
 st:ix→St
 pr:ix→Prop
def FinE (σ:St) [h:HeldE]:Prop:=∃b,σ=h.st b∧h.pr b
theorem finE {σ:St} {h:HeldE} (b:h.ix) (e:σ=h.st b) (p:h.pr b): @FinE σ h:=⟨b,e,p⟩
theorem H3z {E:Env} {call:CallF} {N n:Nat} {β:Type} {b:Code} {σ:St} {K:Kont (Ex×St)} (len:Nat) (S:Nat→β→St) (I:Nat→β→Prop) (hn:Big≤n) (hl:len≤1152921504606846976)
  (h0: @Wq _ (some (tidy N (E.D (BVz b)) σ)) ⟨fun σ=> @FinE σ ⟨β,S 0,I 0⟩⟩)
  (hs:∀j y,j<len→(((j:Int)<(len:Int))=True)→IntKind.i64.wrap ((j:Int)+1)=((j+1:Nat):Int)→I j y→ @Wq _ (AGz E call N n b (S j y)) ⟨cont (fun σ=> @Wq _ (some (tidy N (E.D (BVz b)) σ)) ⟨fun σ=> @FinE σ ⟨β,S (j+1),I (j+1)⟩⟩) K.run⟩)
  (he:∀y,I len y→ @Wq _ (AGz E call N n b (S len y)) ⟨cont (fun _=>False) K.run⟩): @Wq _ (AGz E call N n (.loop b) σ) K:=by
 have hB:Big=9223372036854775808:=rfl
 refine AFz (fun k τ=>∃j y,j≤len∧k=len - j∧I j y∧τ=S j y) len (by omega) ?_ ?_
 ·rw[Evz]at h0 ⊢
  obtain⟨y,h1,h2⟩:=h0
  exact⟨0,y,Nat.zero_le _,rfl,h2,h1⟩
 ·rintro k τ ⟨j,y,hj,rfl,hI,rfl⟩
  by_cases hlt:j<len
  ·refine(hs j y hlt (by simp only[eq_iff_iff,iff_true];omega) (ACz hlt hl) hI).mono fun r hr=> ?_
   obtain⟨e,τ⟩:=r
   cases e with
   |normal=>
    refine Wq.mono (K:=⟨fun σ=> @FinE σ ⟨β,S (j+1),I (j+1)⟩⟩) hr fun τ ht=> ?_
    obtain⟨y',h1,h2⟩:=ht
    exact⟨_,by omega,j+1,y',hlt,rfl,h2,h1⟩
   |_=>exact hr
  ·obtain rfl:j=len:=by omega
   refine(he y hI).mono fun r hr=> ?_
   obtain⟨e,τ⟩:=r
   cases e with
   |normal=>exact hr.elim
   |_=>exact hr
def Rnd (s o:Nat) (q:Path) (es d:Nat) (σ0:St) (rows:Nat→List (List PV)) (j:Nat) (σ:St):Prop:=Wr s o q es d σ0 σ (rows j)∧(j=0→σ=σ0)∧(0<j→Nrm s o q es σ0 σ (rows j))
theorem Rnd.end {s o:Nat} {q:Path} {es d:Nat} {σ0 σ:St} {rows:Nat→List (List PV)} {j:Nat} {r0:List (List PV)} (h:Rnd s o q es d σ0 rows j σ) (h0:r0.length=j):σ=tu s o q es r0 (rows j) σ0:=by
 cases r0 with
 |nil=>exact h.2.1 h0.symm
 |cons a r0=>exact h.2.2 (by rw[←h0];exact Nat.succ_pos _)
def mkL {α:Type} (f:α→Nat→α×Nat):List α→Nat→List α×Nat
 |[],k=>([],k)
 |x::l,k=>((f x k).1::(mkL f l (f x k).2).1,(mkL f l (f x k).2).2)
theorem DHz {α:Type} {f:α→Nat→α×Nat} (hf:∀x k,k≤(f x k).2):∀{l:List α} {k j:Nat},k≤(mkL f (l.take j) k).2∧(mkL f (l.take j) k).2≤(mkL f l k).2
 |[],k,j=>by simp[mkL]
 |x::l,k,0=>⟨Nat.le_refl _,by
  have:=(DHz hf (l:=l) (k:=(f x k).2) (j:=0)).2
  simp only[List.take_zero,mkL]at this ⊢
  exact Nat.le_trans (hf x k) this⟩
 |x::l,k,j+1=>by
  have h1:=DHz hf (l:=l) (k:=(f x k).2) (j:=j)
  simp only[List.take_succ_cons,mkL]
  exact⟨Nat.le_trans (hf x k) h1.1,h1.2⟩
theorem AWz {α:Type} {f:α→Nat→α×Nat}:∀{l:List α} {k:Nat},(mkL f l k).1.length=l.length
 |[],k=>rfl
 |x::l,k=>by simp only[mkL,List.length_cons,AWz]
theorem Dcz {α:Type} {f:α→Nat→α×Nat}:∀{l:List α} {k j:Nat} {x:α},l[j]? =some x→mkL f (l.take (j+1)) k=((mkL f (l.take j) k).1++[(f x (mkL f (l.take j) k).2).1],(f x (mkL f (l.take j) k).2).2)
 |[],k,j,x,h=>by simp at h
 |y::l,k,0,x,h=>by simp at h;subst h;rfl
 |y::l,k,j+1,x,h=>by
  have h':l[j]? =some x:=by simpa using h
  have:=Dcz (f:=f) (k:=(f y k).2) h'
  simp only[List.take_succ_cons,mkL,this,List.cons_append]
def mkR {α:Type} (f:α→Nat→α×Nat) (pv:α→List PV) (l:List α) (k j:Nat):List (List PV):=(mkL f (l.take j) k).1.map pv++(l.drop j).map pv
section
variable {α:Type} {f:α→Nat→α×Nat} {pv:α→List PV} {l:List α} {k j:Nat} {x:α}
theorem Cuz:mkR f pv l k 0=l.map pv:=by simp[mkR,mkL]
theorem G4z:mkR f pv l k l.length=(mkL f l k).1.map pv:=by simp[mkR]
theorem B7z (h:j≤l.length):(mkR f pv l k j).length=l.length:=by simp[mkR,AWz];omega
theorem G3z (h:l[j]? =some x):(mkR f pv l k j)[j]? =some (pv x):=by
 obtain⟨hj,e⟩:=List.getElem?_eq_some_iff.1 h
 unfold mkR
 rw[List.getElem?_append_right (by simp[AWz];omega)]
 have:j - ((mkL f (l.take j) k).1.map pv).length=0:=by simp[AWz];omega
 rw[this,List.getElem?_map,List.getElem?_drop,Nat.add_zero,h]
 rfl
theorem G2z (h:l[j]? =some x) {p:List PV} (hp:p=pv (f x (mkL f (l.take j) k).2).1):(mkR f pv l k j).set j p=mkR f pv l k (j+1):=by
 obtain⟨hj,e⟩:=List.getElem?_eq_some_iff.1 h
 subst hp
 unfold mkR
 rw[List.set_append_right _ _ (by simp[AWz];omega),Dcz h]
 have h0:j - ((mkL f (l.take j) k).1.map pv).length=0:=by simp[AWz];omega
 have h1:l.drop j=l[j]::l.drop (j+1):=List.drop_eq_getElem_cons hj
 rw[h0,h1,List.map_cons,List.set_cons_zero,List.map_append,List.append_assoc]
 rfl
end
end Go.Proofs.YtblelojdboefjaaGreatDoor.R
namespace Go.Proofs.YtblelojdboefjaaGreatDoor.R
open Go
def isAt (p:ByteArray) (e:TEntry):Bool:=e.Path.toList==p.toList
def D1z (l:List TEntry) (p:ByteArray):Option TEntry:=l.find? (isAt p)
def Fmz (l:List TEntry) (p:ByteArray):Int:=match l.findIdx? (isAt p)with
 |some j=>(j:Nat)
 |none=> -1
theorem LZz {l:List TEntry} {p:ByteArray} {j:Nat} {e:TEntry} (hx:l[j]? =some e) (he:isAt p e=true) (hp:∀i y,i<j→l[i]? =some y→isAt p y=false):D1z l p=some e∧Fmz l p=(j:Nat):=by
 obtain⟨hj,hje⟩:=List.getElem?_eq_some_iff.1 hx
 constructor
 ·unfold D1z
  rw[List.find?_eq_some_iff_getElem]
  exact⟨he,j,hj,hje,fun i hi=>by simpa using hp i _ hi (List.getElem?_eq_getElem (by omega))⟩
 ·have:l.findIdx? (isAt p)=some j:=by
   rw[List.findIdx?_eq_some_iff_getElem]
   exact⟨hj,by rw[hje];exact he,fun i hi=>by simpa using hp i _ hi (List.getElem?_eq_getElem (by omega))⟩
  unfold Fmz;rw[this]
theorem LYz {l:List TEntry} {p:ByteArray} (hp:∀i y,i<l.length→l[i]? =some y→isAt p y=false):D1z l p=none∧Fmz l p= -1:=by
 have h:∀y∈l,isAt p y=false:=fun y hy=>by
  obtain⟨i,hi⟩:=List.getElem?_of_mem hy
  exact hp i y (List.getElem?_eq_some_iff.1 hi).1 hi
 constructor
 ·unfold D1z
  rw[List.find?_eq_none]
  intro y hy;simpa using h y hy
 ·have:l.findIdx? (isAt p)=none:=by
   rw[List.findIdx?_eq_none_iff]
   intro y hy;exact h y hy
  unfold Fmz;rw[this]
theorem Ghz (l:List TEntry) (p:ByteArray):(D1z l p=none∧Fmz l p= -1)∨∃(j:Nat) (e:TEntry),D1z l p=some e∧Fmz l p=(j:Nat)∧l[j]? =some e:=by
 cases h:l.findIdx? (isAt p)with
 |none=>
  rw[List.findIdx?_eq_none_iff]at h
  exact .inl (LYz fun i y _ hy=>h y (List.mem_of_getElem? hy))
 |some j=>
  rw[List.findIdx?_eq_some_iff_getElem]at h
  obtain⟨hj,h1,h2⟩:=h
  have hx:l[j]? =some l[j]:=List.getElem?_eq_getElem hj
  have:=LZz hx h1 fun i y hi hy=>by
   obtain⟨hi2,e⟩:=List.getElem?_eq_some_iff.1 hy
   rw[←e];simpa using h2 i hi
  exact .inr ⟨j,_,this.1,this.2,hx⟩
theorem Ftz {α:Type} {l:List α} {f:α→Bool} {j:Nat} {x:α} (hI:∀i y,i<j→l[i]? =some y→f y=false) (hx:l[j]? =some x) (h:f x=false):∀i y,i<j+1→l[i]? =some y→f y=false:=fun i y hi hy=>by
 rcases Nat.lt_succ_iff_lt_or_eq.1 hi with h2|rfl
 ·exact hI i y h2 hy
 ·rw[hx]at hy;injection hy with hy;rw[←hy];exact h
section
variable (n:Nat)
set_option maxHeartbeats 1000000 in
theorem Kfz (hn:Big+1≤n) (l:List TEntry) (hl:l.length≤Bd) (p:ByteArray):pcall env n 41 [.c .one [.sh true (.s 5 (l.map TEntry.pv))],.c .one [.sh false (.t (p))]] []=some ⟨.c .one [.sh false (.i .i64 (Fmz l p))],[]⟩:=by
 refine walk (fn:=Tryz.f41) (d:=0) hn rfl rfl rfl (Nat.le_of_ble_eq_true rfl) fun k hd=> ?_
 unfold Tryz.f41
 have hb:Bd=1048576:=rfl
 simp only[go_sem,seval]
 refine A5z l (fun j=>slots 20 [(0,.c .one [.sh true (.s 5 (l.map TEntry.pv))]),(1,.c .one [.sh false (.t (p))]),(5,.c .one [.sh false (.i .i64 (j:Nat))])]) (fun j=>∀i y,i<j→l[i]? =some y→isAt p y=false) (hd (Nat.zero_le _)) (by omega) ?_ (fun j x hx _ hj h1 hw hI=> ?_) (fun hI=> ?_)
 ·simp only[go_sem,seval];exact fin rfl fun i y hi=>absurd hi (Nat.not_lt_zero _)
 ·cases hb:(x.Path.toList==p.toList)with
  |true=>
   rw[(LZz hx hb hI).2]
   simp only[go_sem,seval,h1,hx,hb]
  |false=>
   simp only[go_sem,seval,h1,hx,hb,hw]
   exact fin rfl (Ftz hI hx hb)
 ·rw[(LYz hI).2]
  simp only[go_sem,seval]
def DGz (t:TTab):List TAttr:=match AIz t.Inodes 1 with
 |some r=>r.Attrs
 |none=>[]
theorem Qlz (hn:Big+7≤n) (t:TTab) (ht:t.ok):pcall env n 39 [.c .agg (t.pv.map AMz)] []=some ⟨.c .one [.ow false 2 ((DGz t).map TAttr.pv)],[]⟩:=by
 refine walk (fn:=Tryz.f39) (d:=6) hn rfl rfl rfl (Nat.le_of_ble_eq_true rfl) fun k hd=> ?_
 unfold Tryz.f39
 have c1:=C5z k (hd (by decide)) t ht 1
 unfold atC at c1
 unfold DGz AIz
 cases h:t.Inodes.find? (fun x=>x.Ino==1)with
 |none=>
  rw[h]at c1
  simp only[go_sem,B1z]at c1
  simp only[go_sem,seval,c1]
 |some r=>
  rw[h]at c1
  simp only[go_sem,BUz]at c1
  simp only[go_sem,seval,c1]
def atL (s o:Nat) (l:List TEntry) (p:ByteArray):List CV:=match D1z l p with
 |some e=>[.sh false (.t e.Path),.sh false (.i .i64 e.Kind),.br s o [((Fmz l p).toNat,2)] 0 0 false 1 (e.Data.map bpv),.br s o [((Fmz l p).toNat,3)] 0 0 false 2 (e.Attrs.map TAttr.pv),.sh false (.t e.First),.sh false (.b true)]
 |none=>[.sh false (.t ⟨#[]⟩),.sh false (.i .i64 0),.ow false 1 [],.ow false 2 [],.sh false (.t ⟨#[]⟩),.sh false (.b false)]
@[go_sem] theorem AEvz {N d:Nat} {σ:St} (h:d<N):List.map (SV.cut d) (upSt N σ)=upSt N σ:=by
 unfold upSt
 rw[List.map_map]
 congr 1
 funext x
 cases x with
 |bp s o=>simp only[Function.comp,SV.up,SV.cut];rw[if_neg (by omega)]
 |fn g caps=>
  simp only[Function.comp,SV.up,SV.cut]
  rw[if_neg]
  simp
  intro x _;omega
 |_=>rfl
theorem Kpz {T:Tys} {N d:Nat} {σ τ:St} {rs:List ResultVar} {sh:List (Bool×Nat)} {cs cs0:List CV} (hτ:Tail N τ σ) (hd:d<σ.length) (hp:plain (σ.getD d .undef)=true)
  (hr:∀τ':St,(∀t,t<N→τ'.getD t .undef=τ.getD t .undef)→(∀s o,(ABz σ s o).isOw=true→ABz τ' (s+N) o=(ABz σ s o).up N)→∃τ2,BGz T true N (N+d) 0 rs τ'=some (τ2,sh,cs)∧(Tail N τ' (σ.set d .undef)→Tail N τ2 (σ.set d .undef))) (hc:cs=cs0.map (CV.up N)):
  E4z T N d rs τ=some (σ.set d (.c (BCz sh) cs0),.c (BCz sh) cs0):=by
 have hT:Tail N (τ.set (N+d) .undef) (σ.set d .undef):=hτ.put (v:= .undef)
 obtain⟨τ2,h1,h2⟩:=hr (τ.set (N+d) .undef) (fun t ht=>by rw[List.getD_eq_getElem?_getD,List.getElem?_set_ne (by omega),←List.getD_eq_getElem?_getD]) (fun s o h=>by rw[hT.cell,ONz hp h])
 exact Koz hτ hd hp h1 (h2 hT) hc
theorem Tail.off {N:Nat} {σ ρ:St} {d j:Nat} (h:Tail N ρ σ) (hd:d<N):Tail N (off d j ρ) σ:=by
 refine⟨by unfold R.off;rw[Arz];exact h.1,?_⟩
 unfold R.off
 rw[HXz,h.2,Nat.zero_add,Woz hd]
theorem LWz {τ:St} {s o k:Nat} {sh:Shape} {l:List CV} (h:τ.getD k .undef= .c sh l):(off s o τ).getD k .undef= .c sh (Acz (offC s o k) 0 l):=by
 unfold off
 rw[List.getD_eq_getElem?_getD,BQz]
 rw[List.getD_eq_getElem?_getD]at h
 cases hx:τ[k]? with
 |none=>rw[hx]at h;cases h
 |some x=>
  rw[hx]at h
  simp only[Option.getD_some]at h
  subst h
  simp only[Option.map_some,Option.getD_some,SV.mapC,Nat.zero_add]
theorem P2z {τ:St} {s o:Nat} {sh:Shape} {l:List CV} (h:τ.getD s .undef= .c sh l):ABz τ s o=l.getD o .dead:=by unfold ABz;rw[h]
set_option maxHeartbeats 2000000 in
theorem Kvz (hn:Big+1≤n) (d s o:Nat) (σ:St) (l:List TEntry) (hl:l.length≤Bd) (p:ByteArray) (hd:d<σ.length) (hp:plain (σ.getD d .undef)=true) (hc:ABz σ s o= .ow false 5 (l.map TEntry.ov)):
  icall env n 47 d σ [.c .one [.br s o [] 0 0 false 5 (l.map TEntry.ov)],.c .one [.sh false (.t (p))]]=some (σ.set d (.c (.tup [(true,5),(false,1)]) (atL s o l p)),.c (.tup [(true,5),(false,1)]) (atL s o l p)):=by
 refine HHz (fn:=Tryz.f47) (d0:=0) hn rfl rfl (Nat.le_of_ble_eq_true rfl) fun k hd0=> ?_
 unfold Tryz.f47
 have hb:Bd=1048576:=rfl
 have hc':ABz (σ.set d .undef) s o= .ow false 5 (l.map TEntry.ov):=by rw[ONz hp (by rw[hc];rfl),hc]
 simp only[go_sem,seval,hc]
 refine A5z l (fun j=>slots 21 [(1,.c .one [.sh false (.t (p))]),(4,.c .box [.sh false (.t ⟨#[]⟩),.sh false (.i .i64 0),.ow false 1 [],.ow false 2 [],.sh false (.t ⟨#[]⟩)]),(8,.c .one [.br (s+21) o [] 0 0 false 5 (l.map TEntry.ov)]),(9,.c .one [.sh false (.i .i64 (l.length:Nat))]),(10,.c .one [.sh false (.i .i64 (j:Nat))])]++upSt 21 σ) (fun j=>∀i y,i<j→l[i]? =some y→isAt p y=false) (hd0 (Nat.zero_le _)) (by omega) ?_ (fun j x hx _ hj h1 hw hI=> ?_) (fun hI=> ?_)
 ·simp only[go_sem,seval,hc];exact fin rfl fun i y hi=>absurd hi (Nat.not_lt_zero _)
 ·cases hb:(x.Path.toList==p.toList)with
  |true=>
   have hf:=LZz hx hb hI
   simp only[go_sem,seval,h1,hx,hb,hc]
   refine Bzz (Kpz (σ:=σ) (sh:=[(true,5),(false,1)]) (cs0:=atL s o l p) ⟨by simp,rfl⟩ hd hp (fun τ' g hcl=> ?_) rfl) rfl
   have hk:=hcl s o (by rw[hc];rfl)
   rw[hc]at hk
   have g4:=g 4 (by decide)
   have g5:=g 5 (by decide)
   simp only[go_sem]at g4 g5 hk
   refine⟨τ',?_,id⟩
   unfold atL
   rw[hf.1,hf.2]
   simp only[go_sem,seval,g4,g5,hk]
  |false=>
   simp only[go_sem,seval,h1,hx,hb,hw,hc]
   exact fin rfl (Ftz hI hx hb)
 ·have hf:=LYz hI
  simp only[go_sem,seval,hc]
  refine Bzz (Kpz (σ:=σ) (sh:=[(true,5),(false,1)]) (cs0:=atL s o l p) ⟨by simp,rfl⟩ hd hp (fun τ' g hcl=> ?_) rfl) rfl
  have g4:=g 4 (by decide)
  have g5:=g 5 (by decide)
  simp only[go_sem]at g4 g5
  have k2:ABz τ' 4 2= .ow false 1 []:=P2z g4
  have g4':=LWz (s:=4) (o:=2) g4
  have k3:ABz (off 4 2 τ') 4 3= .ow false 2 []:=P2z g4'
  have g5':(off 4 3 (off 4 2 τ')).getD 5 .undef= .c .one [.sh false (.b false)]:=LWz (LWz g5)
  refine⟨off 4 3 (off 4 2 τ'),?_,fun h=>(h.off (by decide)).off (by decide)⟩
  unfold off at k3 g5' ⊢
  unfold atL
  rw[hf.1]
  simp only[go_sem,seval,g4,k2,k3,g5']
end
end Go.Proofs.YtblelojdboefjaaGreatDoor.R
namespace Go.Proofs.YtblelojdboefjaaGreatDoor.R
open Go
def atX {α:Type} (f:α→Bool) (l:List α):Int:=match l.findIdx? f with
 |some j=>(j:Nat)
 |none=> -1
theorem K9z {α:Type} {f:α→Bool} {l:List α} {j:Nat} {a:α} (hx:l[j]? =some a) (ha:f a=true) (hp:∀i y,i<j→l[i]? =some y→f y=false):atX f l=(j:Nat):=by
 obtain⟨hj,hje⟩:=List.getElem?_eq_some_iff.1 hx
 have:l.findIdx? f=some j:=by
  rw[List.findIdx?_eq_some_iff_getElem]
  exact⟨hj,by rw[hje];exact ha,fun i hi=>by simpa using hp i _ hi (List.getElem?_eq_getElem (by omega))⟩
 unfold atX;rw[this]
theorem HDz {α:Type} {f:α→Bool} {l:List α} (hp:∀i y,i<l.length→l[i]? =some y→f y=false):atX f l= -1:=by
 have:l.findIdx? f=none:=by
  rw[List.findIdx?_eq_none_iff]
  intro y hy
  obtain⟨i,hi⟩:=List.getElem?_of_mem hy
  exact hp i y (List.getElem?_eq_some_iff.1 hi).1 hi
 unfold atX;rw[this]
theorem Urz {α:Type} (f:α→Bool) (l:List α):(atX f l= -1∧∀y∈l,f y=false)∨∃(j:Nat) (e:α),atX f l=(j:Nat)∧l[j]? =some e∧f e=true:=by
 cases h:l.findIdx? f with
 |none=>
  rw[List.findIdx?_eq_none_iff]at h
  exact .inl ⟨HDz fun i y _ hy=>h y (List.mem_of_getElem? hy),h⟩
 |some j=>
  have h':=h
  rw[List.findIdx?_eq_some_iff_getElem]at h
  obtain⟨hj,h1,h2⟩:=h
  exact .inr ⟨j,_,by unfold atX;rw[h'],List.getElem?_eq_getElem hj,h1⟩
theorem J0z {α:Type} (f:α→Bool) (l:List α):(atX f l= -1∧l.find? f=none)∨∃(j:Nat) (e:α),atX f l=(j:Nat)∧l[j]? =some e∧l.find? f=some e:=by
 cases h:l.findIdx? f with
 |none=>
  refine .inl ⟨by unfold atX;rw[h],?_⟩
  rw[List.findIdx?_eq_none_iff]at h
  rw[List.find?_eq_none]
  intro y hy;simpa using h y hy
 |some j=>
  have h':=h
  rw[List.findIdx?_eq_some_iff_getElem]at h
  obtain⟨hj,h1,h2⟩:=h
  refine .inr ⟨j,_,by unfold atX;rw[h'],List.getElem?_eq_getElem hj,?_⟩
  rw[List.find?_eq_some_iff_getElem]
  exact⟨h1,j,hj,rfl,fun i hi=>by simpa using h2 i hi⟩
def isId (k:Int) (v:TVol):Bool:=v.Id==k
def Bkz (s:ByteArray) (v:TVol):Bool:=v.Name.toList==s.toList
section
variable (n:Nat)
set_option maxHeartbeats 1000000 in
theorem FFz (hn:Big+1≤n) (x:TFs) (hx:x.ok) (k:Int):pcall env n 62 [.c .agg (x.pv.map AMz),.c .one [.sh false (.i .i64 (k))]] []=some ⟨.c .one [.sh false (.i .i64 (atX (isId k) x.Vols))],[]⟩:=by
 refine walk (fn:=Tryz.f62) (d:=0) hn rfl rfl rfl (Nat.le_of_ble_eq_true rfl) fun m hd=> ?_
 unfold Tryz.f62
 have hbd:Bd=1048576:=rfl
 have hl:=hx.Vols.2
 simp only[go_sem,seval]
 refine A5z x.Vols (fun j=>slots 22 [(1,.c .one [.sh false (.i .i64 (k))]),(2,.c .box [.sh true (.s 6 (x.Vols.map TVol.pv)),.sh false (.i .i64 x.Next)]),(5,.c .one [.sh false (.i .i64 (j:Nat))])]) (fun j=>∀i y,i<j→x.Vols[i]? =some y→isId k y=false) (hd (Nat.zero_le _)) (by omega) ?_ (fun j v hv _ hj h1 hw hI=> ?_) (fun hI=> ?_)
 ·simp only[go_sem,seval];exact fin rfl fun i y hi=>absurd hi (Nat.not_lt_zero _)
 ·cases hb:(v.Id==k)with
  |true=>
   rw[K9z hv hb hI]
   simp only[go_sem,seval,h1,hv,hb]
  |false=>
   simp only[go_sem,seval,h1,hv,hb,hw]
   exact fin rfl (Ftz hI hv hb)
 ·rw[HDz hI]
  simp only[go_sem,seval]
set_option maxHeartbeats 1000000 in
theorem Moz (hn:Big+1≤n) (x:TFs) (hx:x.ok) (s:ByteArray):pcall env n 132 [.c .agg (x.pv.map AMz),.c .one [.sh false (.t (s))]] []=some ⟨.c .one [.sh false (.i .i64 (atX (Bkz s) x.Vols))],[]⟩:=by
 refine walk (fn:=Tryz.f132) (d:=0) hn rfl rfl rfl (Nat.le_of_ble_eq_true rfl) fun m hd=> ?_
 unfold Tryz.f132
 have hbd:Bd=1048576:=rfl
 have hl:=hx.Vols.2
 simp only[go_sem,seval]
 refine A5z x.Vols (fun j=>slots 22 [(1,.c .one [.sh false (.t (s))]),(2,.c .box [.sh true (.s 6 (x.Vols.map TVol.pv)),.sh false (.i .i64 x.Next)]),(5,.c .one [.sh false (.i .i64 (j:Nat))])]) (fun j=>∀i y,i<j→x.Vols[i]? =some y→Bkz s y=false) (hd (Nat.zero_le _)) (by omega) ?_ (fun j v hv _ hj h1 hw hI=> ?_) (fun hI=> ?_)
 ·simp only[go_sem,seval];exact fin rfl fun i y hi=>absurd hi (Nat.not_lt_zero _)
 ·cases hb:(v.Name.toList==s.toList)with
  |true=>
   rw[K9z hv hb hI]
   simp only[go_sem,seval,h1,hv,hb]
  |false=>
   simp only[go_sem,seval,h1,hv,hb,hw]
   exact fin rfl (Ftz hI hv hb)
 ·rw[HDz hI]
  simp only[go_sem,seval]
theorem RPz (hn:Big+1≤n) (v:TVol) (k:Int):pcall env n 210 [.c .agg (v.pv.map AMz),.bp 0 0] [[.sh false (.i .i64 k)]]=some ⟨.c .one [.sh false (.b (isId k v))],[[.sh false (.i .i64 k)]]⟩:=by
 refine walk (fn:=Tryz.f210) (d:=0) hn rfl rfl rfl (Nat.le_of_ble_eq_true rfl) fun m hd=> ?_
 unfold Tryz.f210 isId
 simp only[go_sem,seval]
theorem Onz (hn:Big+1≤n) (v:TVol) (s:ByteArray):pcall env n 209 [.c .agg (v.pv.map AMz),.bp 0 0] [[.sh false (.t s)]]=some ⟨.c .one [.sh false (.b (Bkz s v))],[[.sh false (.t s)]]⟩:=by
 refine walk (fn:=Tryz.f209) (d:=0) hn rfl rfl rfl (Nat.le_of_ble_eq_true rfl) fun m hd=> ?_
 unfold Tryz.f209 Bkz
 simp only[go_sem,seval]
set_option maxHeartbeats 1000000 in
theorem Npz (hn:Big+2≤n) (k:Int) (l:List TVol) (hl:l.length≤Bd):pcall env n 208 [.c .one [.sh true (.s 6 (l.map TVol.pv))],.fn 210 [0]] [[.sh false (.i .i64 k)]]=some ⟨.c .one [.sh false (.i .i64 (atX (isId k) l))],[[.sh false (.i .i64 k)]]⟩:=by
 refine walk (fn:=Tryz.f208) (d:=1) hn rfl rfl rfl (Nat.le_of_ble_eq_true rfl) fun m hd=> ?_
 unfold Tryz.f208
 have hbd:Bd=1048576:=rfl
 have hc:=fun a=>RPz m (hd (by decide)) a k
 simp only[go_sem]at hc
 simp only[go_sem,seval]
 refine A5z l (fun j=>slots 19 [(0,.c .one [.sh true (.s 6 (l.map TVol.pv))]),(1,.fn 210 [19]),(7,.c .one [.sh false (.i .i64 (l.length:Nat))]),(8,.c .one [.sh false (.i .i64 (j:Nat))])]++[.c .box [.sh false (.i .i64 k)]]) (fun j=>∀i y,i<j→l[i]? =some y→isId k y=false) (hd (Nat.zero_le _)) (by omega) ?_ (fun j v hv _ hj h1 hw hI=> ?_) (fun hI=> ?_)
 ·simp only[go_sem,seval];exact fin rfl fun i y hi=>absurd hi (Nat.not_lt_zero _)
 ·cases hb:isId k v with
  |true=>
   rw[K9z hv hb hI]
   simp only[go_sem,seval,h1,hv,hb,hc]
  |false=>
   simp only[go_sem,seval,h1,hv,hb,hw,hc]
   exact fin rfl (Ftz hI hv hb)
 ·rw[HDz hI]
  simp only[go_sem,seval]
set_option maxHeartbeats 1000000 in
theorem Noz (hn:Big+2≤n) (s:ByteArray) (l:List TVol) (hl:l.length≤Bd):pcall env n 208 [.c .one [.sh true (.s 6 (l.map TVol.pv))],.fn 209 [0]] [[.sh false (.t s)]]=some ⟨.c .one [.sh false (.i .i64 (atX (Bkz s) l))],[[.sh false (.t s)]]⟩:=by
 refine walk (fn:=Tryz.f208) (d:=1) hn rfl rfl rfl (Nat.le_of_ble_eq_true rfl) fun m hd=> ?_
 unfold Tryz.f208
 have hbd:Bd=1048576:=rfl
 have hc:=fun a=>Onz m (hd (by decide)) a s
 simp only[go_sem]at hc
 simp only[go_sem,seval]
 refine A5z l (fun j=>slots 19 [(0,.c .one [.sh true (.s 6 (l.map TVol.pv))]),(1,.fn 209 [19]),(7,.c .one [.sh false (.i .i64 (l.length:Nat))]),(8,.c .one [.sh false (.i .i64 (j:Nat))])]++[.c .box [.sh false (.t s)]]) (fun j=>∀i y,i<j→l[i]? =some y→Bkz s y=false) (hd (Nat.zero_le _)) (by omega) ?_ (fun j v hv _ hj h1 hw hI=> ?_) (fun hI=> ?_)
 ·simp only[go_sem,seval];exact fin rfl fun i y hi=>absurd hi (Nat.not_lt_zero _)
 ·cases hb:Bkz s v with
  |true=>
   rw[K9z hv hb hI]
   simp only[go_sem,seval,h1,hv,hb,hc]
  |false=>
   simp only[go_sem,seval,h1,hv,hb,hw,hc]
   exact fin rfl (Ftz hI hv hb)
 ·rw[HDz hI]
  simp only[go_sem,seval]
theorem RQz (hn:Big+4≤n) (x:TFs) (hx:x.ok) (k:Int):pcall env n 143 [.c .agg (x.pv.map AMz),.c .one [.sh false (.i .i64 (k))]] []=some ⟨.c .one [.sh false (.i .i64 (atX (isId k) x.Vols))],[]⟩:=by
 refine walk (fn:=Tryz.f143) (d:=3) hn rfl rfl rfl (Nat.le_of_ble_eq_true rfl) fun m hd=> ?_
 unfold Tryz.f143
 have c1:=Npz m (hd (by decide)) k x.Vols hx.Vols.2
 try simp only[go_sem]at c1
 simp only[go_sem,seval,c1]
theorem Mpz (hn:Big+4≤n) (x:TFs) (hx:x.ok) (s:ByteArray):pcall env n 140 [.c .agg (x.pv.map AMz),.c .one [.sh false (.t (s))]] []=some ⟨.c .one [.sh false (.i .i64 (atX (Bkz s) x.Vols))],[]⟩:=by
 refine walk (fn:=Tryz.f140) (d:=3) hn rfl rfl rfl (Nat.le_of_ble_eq_true rfl) fun m hd=> ?_
 unfold Tryz.f140
 have c1:=Noz m (hd (by decide)) s x.Vols hx.Vols.2
 try simp only[go_sem]at c1
 simp only[go_sem,seval,c1]
def Bpz:TTab:=⟨[⟨1,2,0,[],[],[]⟩],2⟩
theorem GJz:Bpz.ok:=by
 have h1:inR 1:=by unfold inR;omega
 have h2:inR 2:=by unfold inR;omega
 have h0:inR 0:=by unfold inR;omega
 refine⟨⟨fun y hy=> ?_,by decide⟩,h2⟩
 obtain rfl:y=⟨1,2,0,[],[],[]⟩:=by simpa[Bpz]using hy
 exact⟨h1,h2,h0,⟨fun _ h=>(nomatch h),Nat.zero_le _⟩,⟨fun _ h=>(nomatch h),Nat.zero_le _⟩,⟨fun _ h=>(nomatch h),Nat.zero_le _⟩⟩
end
end Go.Proofs.YtblelojdboefjaaGreatDoor.R
